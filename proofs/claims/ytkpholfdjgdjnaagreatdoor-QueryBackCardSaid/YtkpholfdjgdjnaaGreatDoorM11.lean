/- Texts of the claim, joined: U0 U1 U2 U3 U4. -/
import Derived.Test.YtkpholfdjgdjnaaGreatDoorM10
namespace Go.Proofs.YtkpholfdjgdjnaaGreatDoor
open Go Go.RowKit Go.Proofs
structure ColI where
  op : Int
  name : ByteArray
structure CondI where
  col : ColI
  cmp : Int
  num : Int
structure QI where
  cols : List ColI
  whr : List CondI
  srt : Int
  lim : Int
def colIV (c : ColI) : List Value := [.int .i64 c.op, .string c.name]
def condIV (c : CondI) : List Value := [.int .i64 c.col.op, .string c.col.name, .int .i64 c.cmp, .int .i64 c.num]
def colsIV (l : List ColI) : List Value := l.flatMap colIV
def condsIV (l : List CondI) : List Value := l.flatMap condIV
def ColZ.i (c : ColZ) : ColI := ⟨c.op, c.name⟩
def CondZ.i (c : CondZ) : CondI := ⟨c.col.i, c.cmp, c.num⟩
def QZ.i (q : QZ) : QI := ⟨q.cols.map ColZ.i, q.whr.map CondZ.i, q.srt, q.lim⟩
theorem colsV_i (l : List ColZ) : colsV l = colsIV (l.map ColZ.i) := by
  unfold colsV colsIV
  rw [List.flatMap_map]
  rfl
theorem condsV_i (l : List CondZ) : condsV l = condsIV (l.map CondZ.i) := by
  unfold condsV condsIV
  rw [List.flatMap_map]
  rfl
theorem flat_len {α : Type} (enc : α → List Value) (sz : Nat) (hsz : ∀ a, (enc a).length = sz) (l : List α) : (l.flatMap enc).length = l.length * sz := by
  induction l with
  | nil => simp
  | cons a l ih => rw [List.flatMap_cons, List.length_append, ih, hsz, List.length_cons, Nat.add_mul]; omega
theorem flat_get {α : Type} (enc : α → List Value) (sz : Nat) (hsz : ∀ a, (enc a).length = sz) (l : List α) (k j : Nat) (a : α) (ha : l[k]? = some a) (hj : j < sz) : (l.flatMap enc)[k * sz + j]? = (enc a)[j]? := by
  induction l generalizing k with
  | nil => simp at ha
  | cons u T ih =>
    cases k with
    | zero =>
      simp at ha
      subst ha
      rw [List.flatMap_cons, List.getElem?_append_left (by rw [hsz]; omega)]
      simp
    | succ k =>
      simp at ha
      have h := ih k ha
      rw [List.flatMap_cons, List.getElem?_append_right (by rw [hsz, Nat.add_mul]; omega), hsz, show (k + 1) * sz + j - sz = k * sz + j by rw [Nat.add_mul]; omega]
      exact h
theorem Row.get {α : Type} {enc : α → List Value} {sz : Nat} (hsz : ∀ a, (enc a).length = sz) {w : World} {v : Value} {n : Nat} {l : List α} (h : Row w v n (l.flatMap enc)) (hn : n = l.length) (hp : 0 < sz) (hl : l ≠ []) :
    ∃ b o cap, v = .slice (some ⟨b, o, none⟩) n cap ∧ ∀ (k : Nat) (a : α), l[k]? = some a → ∀ j, j < sz → w.cell? ⟨b, o + k * sz + j, none⟩ = some ((enc a)[j]?.getD undef) := by
  obtain ⟨A, cap, rfl, h1, hc⟩ := h
  have hlen := flat_len enc sz hsz l
  have hlp := List.length_pos_iff.2 hl
  obtain ⟨b, o, rfl, hcell⟩ := hc (by
    intro he
    rw [he] at hlen
    have := Nat.mul_pos hlp hp
    simp at hlen
    omega)
  refine ⟨b, o, cap, rfl, fun k a ha j hj => ?_⟩
  have hk := getElem?_lt ha
  have hk2 : k * sz + j < l.length * sz := by
    have : (k + 1) * sz ≤ l.length * sz := Nat.mul_le_mul_right _ hk
    rw [Nat.add_mul] at this
    omega
  have := hcell (k * sz + j) (by rw [hlen]; exact hk2)
  rw [flat_get enc sz hsz l k j a ha hj, ← Nat.add_assoc] at this
  exact this
theorem Row.shape {w : World} {v : Value} {n : Nat} {cs : List Value} (h : Row w v n cs) : ∃ A cap, v = .slice A n cap ∧ n ≤ 9223372036854775807 := by
  obtain ⟨A, cap, rfl, h1, _⟩ := h
  exact ⟨A, cap, rfl, h1⟩
theorem Row.keep {w w' : World} {v : Value} {n : Nat} {cs : List Value} (h : Row w v n cs) (e : Ext [] w w') : Row w' v n cs := h.ext e (by simp)
theorem Row.of_own {w : World} {base : Nat} {e : TypeId} {size : Nat} {v : Value} {n : Nat} {xs : List Value} (h : w.ownsRow base e size v n xs) : Row w v n xs := by
  have hlen := h.1
  rcases h.2 with ⟨rfl, rfl⟩ | ⟨g, cap, cur, rfl, hb, hg, h1, h2, h3, h4⟩
  · refine ⟨none, 0, rfl, by omega, fun hne => ?_⟩
    exfalso
    apply hne
    apply List.eq_nil_of_length_eq_zero
    omega
  · refine ⟨some ⟨g, 0, none⟩, cap, rfl, by unfold maxLen at h2; omega, fun hne => ⟨g, 0, rfl, fun j hj => ?_⟩⟩
    have := h.cellAt j (by omega)
    rw [Nat.zero_add, this, List.getElem?_eq_getElem hj]
    rfl
structure QAt (w : World) (vC vW : Value) (q : QI) : Prop where
  rowC : Row w vC q.cols.length (colsIV q.cols)
  rowW : Row w vW q.whr.length (condsIV q.whr)
  nums : ∀ c ∈ q.whr, -lim63 ≤ c.num ∧ c.num < lim63
theorem QAt.keep {w w' : World} {vC vW : Value} {q : QI} (h : QAt w vC vW q) (e : Ext [] w w') : QAt w' vC vW q := ⟨h.rowC.keep e, h.rowW.keep e, h.nums⟩
def qV (vC vW : Value) (q : QI) : Value := .agg #[vC, vW, .int .i64 q.srt, .int .i64 q.lim]
def fitC (c : ColI) : Bool := decide (1 ≤ c.op) && (decide (c.op ≤ 9) && (if c.op < 6 then decide (c.name = (⟨#[]⟩ : ByteArray)) else nameOk c.name))
def fitD (c : CondI) : Bool := fitC c.col && (decide (1 ≤ c.cmp) && decide (c.cmp ≤ 6))
def fitHead (q : QI) : Prop := 1 ≤ q.cols.length ∧ q.cols.length ≤ 16 ∧ q.whr.length ≤ 16 ∧ -(q.cols.length : Int) ≤ q.srt ∧ q.srt ≤ q.cols.length ∧ 0 ≤ q.lim ∧ q.lim ≤ 1000
instance (q : QI) : Decidable (fitHead q) := by unfold fitHead; infer_instance
def fitI (q : QI) : Bool := decide (fitHead q) && (q.cols.all fitC && q.whr.all fitD)
def bsp : ByteArray := ⟨#[32]⟩
def colT (c : ColI) : ByteArray := if 6 ≤ c.op then (colW[c.op.toNat]?.getD ⟨#[]⟩) ++ ((⟨#[40]⟩ : ByteArray) ++ c.name ++ (⟨#[41]⟩ : ByteArray)) else colW[c.op.toNat]?.getD ⟨#[]⟩
def itoaB (n : Int) : ByteArray := ⟨(Lib.itoa n).toArray⟩
def condT (c : CondI) : ByteArray := colT c.col ++ bsp ++ (cmpW[c.cmp.toNat]?.getD ⟨#[]⟩) ++ bsp ++ itoaB c.num
def joinB (l : List ByteArray) (sep : ByteArray) : ByteArray := ⟨(Lib.join (l.map (·.data.toList)) sep.data.toList).toArray⟩
def bWhere : ByteArray := ⟨#[32, 119, 104, 101, 114, 101, 32]⟩
def bAnd : ByteArray := ⟨#[32, 97, 110, 100, 32]⟩
def bComma : ByteArray := ⟨#[44, 32]⟩
def bSort : ByteArray := ⟨#[32, 115, 111, 114, 116, 32]⟩
def bDown : ByteArray := ⟨#[32, 100, 111, 119, 110]⟩
def bLimit : ByteArray := ⟨#[32, 108, 105, 109, 105, 116, 32]⟩
def prt1 (q : QI) : ByteArray := joinB (q.cols.map colT) bComma
def prt2 (q : QI) : ByteArray := if q.whr = [] then prt1 q else prt1 q ++ (bWhere ++ joinB (q.whr.map condT) bAnd)
def prt3 (q : QI) : ByteArray := if 0 < q.srt then prt2 q ++ (bSort ++ itoaB q.srt) else if q.srt < 0 then prt2 q ++ (bSort ++ itoaB (-q.srt) ++ bDown) else prt2 q
def prt4 (q : QI) : ByteArray := if 0 < q.lim then prt3 q ++ (bLimit ++ itoaB q.lim) else prt3 q
def printI (q : QI) : ByteArray := if fitI q then prt4 q else ⟨#[]⟩
end Go.Proofs.YtkpholfdjgdjnaaGreatDoor
namespace Go.Proofs.YtkpholfdjgdjnaaGreatDoor
open Go Go.RowKit Go.Proofs
def nameP (s : ByteArray) : Bool := decide (0 < s.size) && (decide (s.size ≤ 16) && (wordZ (bt s 0) && !decide (0 ≤ Lib.indexByte s.data.toList 45)))
theorem size0 {s : ByteArray} (h : s.size = 0) : s = ⟨#[]⟩ := ByteArray.ext (Array.eq_empty_of_size_eq_zero h)
set_option maxHeartbeats 1000000 in
theorem nameP_calls (s : ByteArray) (w : World) (b : Bool) (hb : nameP s = b) :
    Calls Tryz.prog 86 #[.string s] w fun e w' => e = .returned (.bool b) ∧ w' = w := by
  subst hb
  unfold nameP
  have hr := bt_range s 0
  by_cases h0 : 0 < s.size
  · have hne := toList_empty h0
    have hb0 := bt_at s 0 h0
    by_cases h1 : s.size ≤ 16
    · rcases h2 : wordZ (bt s 0) with _ | _
      · have H2 := Lib.hid h2
        clear h2
        go_enter Tryz.func86, Tryz.ntmps86
        go_wp2_with (go_at_call 68; refine (wordByte_calls (bt s 0) w hr.1 hr.2).mono ?_; rw [H2.out]; rintro e w' ⟨rfl, rfl⟩)
        go_ret
        simp
      · have H2 := Lib.hid h2
        clear h2
        go_enter Tryz.func86, Tryz.ntmps86
        go_wp2_with (first
          | (go_at_call 68; refine (wordByte_calls (bt s 0) w hr.1 hr.2).mono ?_; rw [H2.out]; rintro e w' ⟨rfl, rfl⟩)
          | (go_at_call 135; refine (Tryz.strings_Contains_one s 45 w).mono ?_; rintro e w' ⟨rfl, rfl⟩))
        go_ret
        simp [h1, h0]
    · go_enter Tryz.func86, Tryz.ntmps86
      go_wp2_with fail
      go_ret
      simp [h1]
  · have hz := size0 (by omega : s.size = 0)
    subst hz
    have hne := toList_nil
    go_enter Tryz.func86, Tryz.ntmps86
    go_wp2_with fail
    go_ret
    exact ⟨ret_bool (by decide), rfl⟩
theorem nameOk_P (s : ByteArray) : nameOk s = true ↔ nameP s = true ∧ ∀ i, i < s.size → wordZ (bt s i) = true := by
  unfold nameOk nameP
  simp only [Bool.and_eq_true, decide_eq_true_eq, namesFrom_iff, Bool.not_eq_true', decide_eq_false_iff_not, dash_iff]
  constructor
  · rintro ⟨⟨h1, h2⟩, h3⟩
    refine ⟨⟨by omega, h3, nameZ_is_word (h1 0 (Nat.le_refl _) (by omega)), ?_⟩, fun i hi => nameZ_is_word (h1 i (Nat.zero_le _) hi)⟩
    rintro ⟨i, hi, h4⟩
    have := h1 i (Nat.zero_le _) hi
    exact (nameZ_word (nameZ_is_word this)).1 this h4
  · rintro ⟨⟨h0, h1, h2, h3⟩, h4⟩
    exact ⟨⟨fun i _ hi => (nameZ_word (h4 i hi)).2 (fun h5 => h3 ⟨i, hi, h5⟩), by omega⟩, h1⟩
set_option maxRecDepth 100000 in
set_option maxHeartbeats 1000000 in
theorem fitCol_calls (c : ColI) (w : World) (b : Bool) (hb : fitC c = b) :
    Calls Tryz.prog 38 #[.agg #[.int .i64 c.op, .string c.name]] w fun e w' => e = .returned (.bool b) ∧ Ext [] w w' := by
  subst hb
  obtain ⟨op, s⟩ := c
  unfold fitC
  dsimp only
  have E1 : Ext [] w (w.alloc (.cells #[.int .i64 op, .string s] 57)) := (Ext.refl [] w).alloc _
  by_cases h1 : 1 ≤ op
  · by_cases h9 : op ≤ 9
    · by_cases h6 : op < 6
      · by_cases hs : s = ⟨#[]⟩
        · subst hs
          have hne := toList_nil
          go_enter Tryz.func38, Tryz.ntmps38
          go_wp2_with fail
          go_ret
          exact ⟨by simp [h1, h9, h6], E1⟩
        · have hne := toList_ne hs
          go_enter Tryz.func38, Tryz.ntmps38
          go_wp2_with fail
          go_ret
          exact ⟨by simp [h1, h9, h6, hs], E1⟩
      · have h6' : 6 ≤ op := by omega
        have hOk := nameOk_P s
        rcases hP : nameP s with _ | _
        · have HP := Lib.hid hP
          have HN := Lib.hid (show nameOk s = false by
            rcases hq : nameOk s with _ | _
            · rfl
            · rw [hq] at hOk
              have := (hOk.1 rfl).1
              rw [hP] at this
              cases this)
          clear hP hOk
          go_enter Tryz.func38, Tryz.ntmps38
          go_wp2_with (go_at_call 86; refine (nameP_calls s _ false HP.out).mono ?_; rintro e w' ⟨rfl, rfl⟩)
          go_ret
          exact ⟨by simp [h1, h9, h6, HN.out], E1⟩
        · have HP := Lib.hid hP
          have hsz : s.size ≤ 16 := by
            unfold nameP at hP
            simp only [Bool.and_eq_true, decide_eq_true_eq] at hP
            omega
          have HO := Lib.hid hOk
          clear hP hOk
          go_enter Tryz.func38, Tryz.ntmps38
          go_wp2_with (go_at_call 86; refine (nameP_calls s _ true HP.out).mono ?_; rintro e w' ⟨rfl, rfl⟩)
          go_loop [25] (fun i => ∃ k : Nat, i = .int .i64 k ∧ k ≤ s.size ∧ Hid (∀ j, j < k → wordZ (bt s j) = true)) (fun i => s.size - (intOf i).toNat)
          case atStart => exact ⟨0, rfl, by omega, fun j hj => by omega⟩
          case round =>
            obtain ⟨k, rfl, hk, hw⟩ := hrel
            have hbk := bt_at s k
            have hrk := bt_range s k
            by_cases hlt : k < s.size
            · rcases hwd : wordZ (bt s k) with _ | _
              · have Hwd := Lib.hid hwd
                clear hwd
                go_wp2_with (go_at_call 68; refine (wordByte_calls (bt s k) _ hrk.1 hrk.2).mono ?_; rw [Hwd.out]; rintro e w' ⟨rfl, rfl⟩)
                go_ret
                have : nameOk s = false := by
                  rcases hq : nameOk s with _ | _
                  · rfl
                  · have := (HO.out.1 hq).2 k hlt
                    rw [Hwd.out] at this
                    cases this
                exact ⟨by simp [h1, h9, h6, this], E1⟩
              · have Hwd := Lib.hid hwd
                clear hwd
                go_wp2_with (go_at_call 68; refine (wordByte_calls (bt s k) _ hrk.1 hrk.2).mono ?_; rw [Hwd.out]; rintro e w' ⟨rfl, rfl⟩)
                go_round
                case rel => exact ⟨k + 1, by go_num, by omega, fun j hj => (Nat.lt_or_ge j k).elim (hw.out j) (fun h => by rw [show j = k by omega]; exact Hwd.out)⟩
                case measure => simp [intOf]; omega
            · go_wp2_with fail
              go_ret
              have : nameOk s = true := HO.out.2 ⟨HP.out, fun i hi => hw.out i (by omega)⟩
              exact ⟨by simp [h1, h9, h6, this], E1⟩
    · go_enter Tryz.func38, Tryz.ntmps38
      go_wp2_with fail
      go_ret
      exact ⟨ret_bool (by rw [decide_eq_false (show ¬ op ≤ 9 by omega)]; simp), E1⟩
  · go_enter Tryz.func38, Tryz.ntmps38
    go_wp2_with fail
    go_ret
    exact ⟨ret_bool (by rw [decide_eq_false (show ¬ 1 ≤ op by omega)]; simp), E1⟩
end Go.Proofs.YtkpholfdjgdjnaaGreatDoor
namespace Go.Proofs.YtkpholfdjgdjnaaGreatDoor
open Go Go.RowKit Go.Proofs
theorem Row.at {α : Type} {enc : α → List Value} {sz : Nat} (hsz : ∀ a, (enc a).length = sz) (hp : 0 < sz) {w : World} {v : Value} {n : Nat} {l : List α} (h : Row w v n (l.flatMap enc)) (hn : n = l.length) :
    ∃ A cap, v = .slice A n cap ∧ n ≤ 9223372036854775807 ∧ ∀ (W : World), Ext [] w W → ∀ (k : Nat) (a : α), l[k]? = some a → ∃ b o, A = some ⟨b, o, none⟩ ∧ b < w.heap.size ∧ ∀ j, j < sz → W.cell? ⟨b, o + k * sz + j, none⟩ = some ((enc a)[j]?.getD undef) := by
  obtain ⟨A, cap, rfl, h1⟩ := h.shape
  refine ⟨A, cap, rfl, h1, fun W e k a ha => ?_⟩
  have hl : l ≠ [] := by rintro rfl; simp at ha
  obtain ⟨b, o, cap', he, hc⟩ := h.get hsz hn hp hl
  simp only [Value.slice.injEq, true_and] at he
  obtain ⟨rfl, rfl⟩ := he
  exact ⟨b, o, rfl, cell_lt (hc k a ha 0 hp), fun j hj => e.keeps (hc k a ha j hj) (by simp)⟩
theorem all_yes {α : Type} {l : List α} {f : α → Bool} (h : ∀ (j : Nat) (c : α), j < l.length → l[j]? = some c → f c = true) : l.all f = true := by
  rw [List.all_eq_true]
  intro x hx
  obtain ⟨i, hi, he⟩ := List.getElem_of_mem hx
  exact h i x hi (by rw [List.getElem?_eq_getElem hi, he])
theorem all_no {α : Type} {l : List α} {f : α → Bool} {k : Nat} {c : α} (h : l[k]? = some c) (hf : f c = false) : l.all f = false := by
  rw [List.all_eq_false]
  exact ⟨c, List.mem_of_getElem? h, by rw [hf]; simp⟩
theorem all_succ {α : Type} {l : List α} {f : α → Bool} {k : Nat} {c0 : α} (h : ∀ (j : Nat) (c : α), j < k → l[j]? = some c → f c = true) (hc : l[k]? = some c0) (hf : f c0 = true) : ∀ (j : Nat) (c : α), j < k + 1 → l[j]? = some c → f c = true := by
  intro j c hj hjc
  rcases Nat.lt_or_ge j k with h1 | h1
  · exact h j c h1 hjc
  · obtain rfl : j = k := by omega
    rw [hc] at hjc
    cases hjc
    exact hf
set_option maxRecDepth 100000 in
set_option maxHeartbeats 4000000 in
theorem pfit_calls (q : QI) (vC vW : Value) (w : World) (h : QAt w vC vW q) :
    Calls Tryz.prog 12 #[qV vC vW q] w fun e w' => e = .returned (.bool (fitI q)) ∧ Ext [] w w' := by
  obtain ⟨AC, capC, rfl, hnC, getC⟩ := Row.at (sz := 2) (fun _ => rfl) (by decide) h.rowC rfl
  obtain ⟨AW, capW, rfl, hnW, getW⟩ := Row.at (sz := 4) (fun _ => rfl) (by decide) h.rowW rfl
  clear h
  obtain ⟨cols, whr, srt, lim⟩ := q
  unfold qV
  dsimp only at *
  have E1 : Ext [] w (w.alloc (.cells #[.slice AC cols.length capC, .slice AW whr.length capW, .int .i64 srt, .int .i64 lim] 25)) := (Ext.refl [] w).alloc _
  by_cases hh : fitHead ⟨cols, whr, srt, lim⟩
  · have HF : Hid (fitI ⟨cols, whr, srt, lim⟩ = (cols.all fitC && whr.all fitD)) := by unfold Hid fitI; simp [hh]
    unfold fitHead at hh
    obtain ⟨a1, a2, a3, a4, a5, a6, a7⟩ := hh
    dsimp only at a1 a2 a3 a4 a5 a6 a7
    have GC := Lib.hid getC
    have GW := Lib.hid getW
    clear getC getW
    go_enter Tryz.func12, Tryz.ntmps12
    go_wp2_with fail
    go_loopw [49] (fun i wr => ∃ k : Nat, i = .int .i64 k ∧ k ≤ cols.length ∧ Blk wr w.heap.size [.slice AC cols.length capC, .slice AW whr.length capW, .int .i64 srt, .int .i64 lim] 25 ∧ Ext [] w wr ∧ Hid (∀ j c, j < k → cols[j]? = some c → fitC c = true)) (fun i _ => cols.length - (intOf i).toNat)
    case atStart => exact ⟨0, rfl, by omega, Blk.new w [.slice AC cols.length capC, .slice AW whr.length capW, .int .i64 srt, .int .i64 lim] 25, E1, fun j c hj => by omega⟩
    case round =>
      obtain ⟨k, rfl, hk, B, E, hall⟩ := hrel
      have c1 := B.cell 1
      simp only [List.getElem?_cons_zero, List.getElem?_cons_succ] at c1
      by_cases hlt : k < cols.length
      · obtain ⟨c, hc⟩ : ∃ c, cols[k]? = some c := ⟨_, List.getElem?_eq_getElem hlt⟩
        obtain ⟨b, o, rfl, hbl, hcell⟩ := GC.out wr E k c hc
        have d0 := hcell 0 (by decide)
        have d1 := hcell 1 (by decide)
        have Hc := Lib.hid hc
        clear hc hcell
        simp only [colIV, List.getElem?_cons_zero, List.getElem?_cons_succ, Option.getD_some, Nat.add_zero] at d0 d1
        rcases hf : fitC c with _ | _
        · have Hf := Lib.hid hf
          clear hf
          go_wp2_with (go_at_call 38; refine (fitCol_calls c _ false Hf.out).mono ?_; rintro e w' ⟨rfl, E2⟩)
          go_ret
          exact ⟨ret_bool (by rw [HF.out, all_no Hc.out Hf.out]; rfl), (E.alloc _).trans E2⟩
        · have Hf := Lib.hid hf
          clear hf
          go_wp2_with (go_at_call 38; refine (fitCol_calls c _ true Hf.out).mono ?_; rintro e w' ⟨rfl, E2⟩)
          go_roundw
          case rel => exact ⟨k + 1, by go_num, by omega, (B.alloc _).ext E2 (by simp), (E.alloc _).trans E2, all_succ hall.out Hc.out Hf.out⟩
          case measure => simp [intOf]; omega
      · have HA := Lib.hid (all_yes (fun j c hj hc => hall.out j c (by omega) hc))
        clear hall
        go_wp2_with fail
        go_loopw [60] (fun i wr => ∃ k : Nat, i = .int .i64 k ∧ k ≤ whr.length ∧ Ext [] w wr ∧ Hid (∀ j c, j < k → whr[j]? = some c → fitD c = true)) (fun i _ => whr.length - (intOf i).toNat)
        case atStart => exact ⟨0, rfl, by omega, E, fun j c hj => by omega⟩
        case round =>
          obtain ⟨k2, rfl, hk2, E, hall⟩ := hrel
          by_cases hlt2 : k2 < whr.length
          · obtain ⟨c, hc⟩ : ∃ c, whr[k2]? = some c := ⟨_, List.getElem?_eq_getElem hlt2⟩
            obtain ⟨b, o, rfl, hbl, hcell⟩ := GW.out _ E k2 c hc
            have d0 := hcell 0 (by decide)
            have d1 := hcell 1 (by decide)
            have d2 := hcell 2 (by decide)
            have d3 := hcell 3 (by decide)
            have Hc := Lib.hid hc
            clear hc hcell
            simp only [condIV, List.getElem?_cons_zero, List.getElem?_cons_succ, Option.getD_some, Nat.add_zero] at d0 d1 d2 d3
            rcases hf : fitC c.col with _ | _
            · have Hf := Lib.hid hf
              have Hd := Lib.hid (show fitD c = false by unfold fitD; rw [hf]; rfl)
              clear hf
              go_wp2_with (go_at_call 38; refine (fitCol_calls c.col _ false Hf.out).mono ?_; rintro e w' ⟨rfl, E2⟩)
              go_ret
              exact ⟨ret_bool (by rw [HF.out, HA.out, all_no Hc.out Hd.out]; rfl), (E.alloc _).trans E2⟩
            · have Hf := Lib.hid hf
              clear hf
              by_cases m1 : 1 ≤ c.cmp
              · by_cases m6 : c.cmp ≤ 6
                · have Hd := Lib.hid (show fitD c = true by unfold fitD; rw [Hf.out]; simp [m1, m6])
                  go_wp2_with (go_at_call 38; refine (fitCol_calls c.col _ true Hf.out).mono ?_; rintro e w' ⟨rfl, E2⟩; have dd : w'.cell? _ = _ := E2.keeps (World.cell?_alloc_new _ _ _ 2) (by simp))
                  go_roundw
                  case rel => exact ⟨k2 + 1, by go_num, by omega, (E.alloc _).trans E2, all_succ hall.out Hc.out Hd.out⟩
                  case measure => simp [intOf]; omega
                · have Hd := Lib.hid (show fitD c = false by unfold fitD; rw [Hf.out]; simp [m6])
                  go_wp2_with (go_at_call 38; refine (fitCol_calls c.col _ true Hf.out).mono ?_; rintro e w' ⟨rfl, E2⟩; have dd : w'.cell? _ = _ := E2.keeps (World.cell?_alloc_new _ _ _ 2) (by simp))
                  go_ret
                  exact ⟨ret_bool (by rw [HF.out, HA.out, all_no Hc.out Hd.out]; rfl), (E.alloc _).trans E2⟩
              · have Hd := Lib.hid (show fitD c = false by unfold fitD; rw [Hf.out]; simp [m1])
                go_wp2_with (go_at_call 38; refine (fitCol_calls c.col _ true Hf.out).mono ?_; rintro e w' ⟨rfl, E2⟩; have dd : w'.cell? _ = _ := E2.keeps (World.cell?_alloc_new _ _ _ 2) (by simp))
                go_ret
                exact ⟨ret_bool (by rw [HF.out, HA.out, all_no Hc.out Hd.out]; rfl), (E.alloc _).trans E2⟩
          · have HB := Lib.hid (all_yes (fun j c hj hc => hall.out j c (by omega) hc))
            clear hall
            go_wp2_with fail
            go_ret
            exact ⟨ret_bool (by rw [HF.out, HA.out, HB.out]; rfl), E⟩
  · have HF : Hid (fitI ⟨cols, whr, srt, lim⟩ = false) := by unfold Hid fitI; simp [hh]
    unfold fitHead at hh
    dsimp only at hh
    clear getC getW
    by_cases a1 : 1 ≤ cols.length
    · by_cases a2 : cols.length ≤ 16
      · by_cases a3 : whr.length ≤ 16
        · by_cases a4 : -(cols.length : Int) ≤ srt
          · by_cases a5 : srt ≤ cols.length
            · by_cases a6 : 0 ≤ lim
              · have a7 : ¬ lim ≤ 1000 := by omega
                clear hh
                go_enter Tryz.func12, Tryz.ntmps12
                go_wp2_with fail
                go_ret
                exact ⟨ret_bool HF.out.symm, E1⟩
              · clear hh
                go_enter Tryz.func12, Tryz.ntmps12
                go_wp2_with fail
                go_ret
                exact ⟨ret_bool HF.out.symm, E1⟩
            · clear hh
              go_enter Tryz.func12, Tryz.ntmps12
              go_wp2_with fail
              go_ret
              exact ⟨ret_bool HF.out.symm, E1⟩
          · clear hh
            go_enter Tryz.func12, Tryz.ntmps12
            go_wp2_with fail
            go_ret
            exact ⟨ret_bool HF.out.symm, E1⟩
        · clear hh
          go_enter Tryz.func12, Tryz.ntmps12
          go_wp2_with fail
          go_ret
          exact ⟨ret_bool HF.out.symm, E1⟩
      · clear hh
        go_enter Tryz.func12, Tryz.ntmps12
        go_wp2_with fail
        go_ret
        exact ⟨ret_bool HF.out.symm, E1⟩
    · clear hh
      go_enter Tryz.func12, Tryz.ntmps12
      go_wp2_with fail
      go_ret
      exact ⟨ret_bool HF.out.symm, E1⟩
end Go.Proofs.YtkpholfdjgdjnaaGreatDoor
namespace Go.Proofs.YtkpholfdjgdjnaaGreatDoor
open Go Go.RowKit Go.Proofs Go.Shelf Go.Lib Go.Sort
theorem num_calls (n : Int) (w : World) (he : Env w) (h : -lim63 ≤ n ∧ n < lim63) :
    Calls Tryz.prog 42 #[.int .i64 n] w fun e w' => e = .returned (.string (itoaB n)) ∧ Ext [] w w' := by
  have HF : Calls Tryz.prog 89 #[.int .i64 n, .int .i64 10] w fun e w'' => e = .returned (.string (itoaB n)) ∧ ∃ k os, w'' = grow (w.drewN k) os :=
    Tryz.strconv_FormatInt_10 n h.1 (by have := h.2; unfold lim63 at this; omega) _ (tab_env he)
  go_enter Tryz.func42, Tryz.ntmps42
  go_wp2_with (go_at_call 89; refine HF.mono ?_; rintro e w' ⟨rfl, k, os, rfl⟩)
  go_ret
  exact ⟨rfl, ext_grow w k os⟩
theorem colW_size (n : Nat) (h : n < 10) : (colW[n]?.getD ByteArray.empty).size ≤ 8 := by
  have : ∀ m, m < 10 → (colW[m]?.getD ByteArray.empty).size ≤ 8 := by decide
  exact this n h
set_option maxRecDepth 100000 in
set_option maxHeartbeats 2000000 in
theorem column_calls (c : ColI) (w : World) (h1 : 1 ≤ c.op) (h9 : c.op ≤ 9) (hnm : 6 ≤ c.op → c.name.size ≤ 16) :
    Calls Tryz.prog 40 #[.agg #[.int .i64 c.op, .string c.name]] w fun e w' => e = .returned (.string (colT c)) ∧ Ext [] w w' := by
  obtain ⟨op, s⟩ := c
  dsimp only at h1 h9 hnm
  obtain ⟨n, rfl⟩ : ∃ n : Nat, op = n := ⟨op.toNat, by omega⟩
  have hn10 : n < 10 := by omega
  have ht := tabV_get colW n hn10
  have hcs : (colW[n]?.getD ByteArray.empty).size ≤ 8 := colW_size n hn10
  have E1 : Ext [] w (w.alloc (.cells #[.int .i64 n, .string s] 57)) := (Ext.refl [] w).alloc _
  have B1 := Blk.new w [.int .i64 n, .string s] 57
  have q0 := B1.cell 0
  have q1 := B1.cell 1
  simp only [List.getElem?_cons_zero, List.getElem?_cons_succ] at q0 q1
  go_enter Tryz.func40, Tryz.ntmps40
  go_upto_region 1 with fail
  go_cut [3] (fun v W => v = .string (colW[n]?.getD ByteArray.empty) ∧ Ext [] (w.alloc (.cells #[.int .i64 n, .string s] 57)) W)
  case first =>
    go_region_with (go_at_call 88; refine (columns_calls _).mono ?_; rintro e w' ⟨rfl, rfl⟩)
    all_goals (go_wp2_with fail)
    all_goals (go_meet; (case rel => (refine ⟨rfl, ?_⟩; (repeat (first | exact Ext.refl _ _ | with_reducible refine Ext.alloc ?_ _ | with_reducible refine Ext.drewN ?_ _ | with_reducible refine Ext.drew ?_)))))
  case rest =>
    obtain ⟨rfl, E2⟩ := hcut
    have c0 := E2.keeps q0 (by simp)
    have c1 := E2.keeps q1 (by simp)
    by_cases h6 : 6 ≤ n
    · have hsz : s.size ≤ 16 := hnm (by omega)
      go_wp2_with fail
      go_ret
      exact ⟨by unfold colT; rw [if_pos (by dsimp only; omega)]; rfl, E1.trans E2⟩
    · go_wp2_with fail
      go_ret
      exact ⟨by unfold colT; rw [if_neg (by dsimp only; omega)]; rfl, E1.trans E2⟩
end Go.Proofs.YtkpholfdjgdjnaaGreatDoor
namespace Go.Proofs.YtkpholfdjgdjnaaGreatDoor
open Go Go.RowKit Go.Proofs Go.Shelf Go.Lib Go.Sort
theorem Tryz.info9 : (Tryz.prog.info? 9).map (fun i => (i.zero, i.size, i.bytes)) = some (some (.string ⟨#[]⟩), 1, 16) := by kernel_rfl
theorem take_snoc {α : Type} {l : List α} {k : Nat} {c : α} (h : l[k]? = some c) : l.take (k + 1) = l.take k ++ [c] := by
  rw [List.take_add_one, h]
  rfl
theorem itoaB_size {n : Int} (h : -lim63 ≤ n ∧ n < lim63) : (itoaB n).size ≤ 20 := by
  have e : (itoaB n).size = (Lib.itoa n).length := by unfold itoaB; simp [ByteArray.size]
  rw [e]
  unfold Lib.itoa
  split
  · have := small_digits (u := n.natAbs) (by omega)
    simp
    omega
  · have := small_digits (u := n.toNat) (by omega)
    omega
theorem cmpW_size (n : Nat) (h : n < 7) : (cmpW[n]?.getD ByteArray.empty).size ≤ 2 := by
  have : ∀ m, m < 7 → (cmpW[m]?.getD ByteArray.empty).size ≤ 2 := by decide
  exact this n h
theorem fitC_op {c : ColI} (h : fitC c = true) : 1 ≤ c.op ∧ c.op ≤ 9 ∧ (6 ≤ c.op → c.name.size ≤ 16) := by
  unfold fitC at h
  simp only [Bool.and_eq_true, decide_eq_true_eq] at h
  obtain ⟨h1, h2, h3⟩ := h
  refine ⟨h1, h2, fun h6 => ?_⟩
  rw [if_neg (by omega)] at h3
  unfold nameOk at h3
  simp only [Bool.and_eq_true, decide_eq_true_eq] at h3
  exact h3.2
theorem fitD_op {c : CondI} (h : fitD c = true) : fitC c.col = true ∧ 1 ≤ c.cmp ∧ c.cmp ≤ 6 := by
  unfold fitD at h
  simp only [Bool.and_eq_true, decide_eq_true_eq] at h
  exact h
theorem colT_size {c : ColI} (h : fitC c = true) : (colT c).size ≤ 26 := by
  obtain ⟨h1, h2, h3⟩ := fitC_op h
  have h4 : (colW[c.op.toNat]?.getD ⟨#[]⟩).size ≤ 8 := colW_size c.op.toNat (by omega)
  unfold colT
  split
  · have := h3 (by assumption)
    rw [ByteArray.size_append, ByteArray.size_append, ByteArray.size_append]
    have e1 : (⟨#[40]⟩ : ByteArray).size = 1 := rfl
    have e2 : (⟨#[41]⟩ : ByteArray).size = 1 := rfl
    omega
  · omega
theorem condT_size {c : CondI} (h : fitD c = true) (hn : -lim63 ≤ c.num ∧ c.num < lim63) : (condT c).size ≤ 50 := by
  obtain ⟨h1, h2, h3⟩ := fitD_op h
  have h4 := colT_size h1
  have h5 : (cmpW[c.cmp.toNat]?.getD ⟨#[]⟩).size ≤ 2 := cmpW_size c.cmp.toNat (by omega)
  have h6 := itoaB_size hn
  unfold condT
  rw [ByteArray.size_append, ByteArray.size_append, ByteArray.size_append, ByteArray.size_append]
  have e1 : bsp.size = 1 := rfl
  omega
theorem joinTail_le (sep : List UInt8) (m : Nat) (r : List (List UInt8)) (h : ∀ x ∈ r, x.length ≤ m) : (Lib.joinTail sep r).length ≤ r.length * (sep.length + m) := by
  induction r with
  | nil => simp [Lib.joinTail]
  | cons x r ih =>
    have h1 := ih (fun y hy => h y (List.mem_cons_of_mem _ hy))
    have h2 := h x (by simp)
    unfold Lib.joinTail at *
    simp only [List.map_cons, List.flatten_cons, List.length_append, List.length_cons, Nat.add_mul] at *
    omega
theorem join_le (sep : List UInt8) (m : Nat) (l : List (List UInt8)) (h : ∀ x ∈ l, x.length ≤ m) : (Lib.join l sep).length ≤ l.length * (sep.length + m) := by
  cases l with
  | nil => simp [Lib.join_nil]
  | cons x r =>
    rw [Lib.join_cons, List.length_append]
    have h1 := joinTail_le sep m r (fun y hy => h y (List.mem_cons_of_mem _ hy))
    have h2 := h x (by simp)
    rw [List.length_cons, Nat.add_mul]
    omega
theorem joinB_size (l : List ByteArray) (sep : ByteArray) (m : Nat) (h : ∀ x ∈ l, x.size ≤ m) : (joinB l sep).size ≤ l.length * (sep.size + m) := by
  have e : (joinB l sep).size = (Lib.join (l.map (·.data.toList)) sep.data.toList).length := by unfold joinB; simp [ByteArray.size]
  rw [e]
  have := join_le sep.data.toList m (l.map (·.data.toList)) (by
    intro x hx
    obtain ⟨y, hy, rfl⟩ := List.mem_map.1 hx
    exact h y hy)
  simpa using this
theorem join_own {w : World} {base : Nat} {v : Value} {n : Nat} (xs : List ByteArray) (row : w.ownsRow base 9 1 v n (xs.map Value.string)) (hn : n = xs.length) (hp : 0 < n) (hs : n ≤ 100) (sep : ByteArray) (m : Nat) (hm : m ≤ 1000) (hse : sep.size ≤ 1000) (hx : ∀ x ∈ xs, x.size ≤ m) :
    ∃ g cap, v = .slice (some ⟨g, 0, none⟩) n cap ∧ Calls Tryz.prog 43 #[.slice (some ⟨g, 0, none⟩) n cap, .string sep] w fun e w' => e = .returned (.string (joinB xs sep)) ∧ Ext [] w w' := by
  rcases row.2 with ⟨_, h0⟩ | ⟨g, cap, cur, rfl, hb, hg, h1, h2, h3, h4⟩
  · omega
  · refine ⟨g, cap, rfl, ?_⟩
    subst hn
    have hlen : (Lib.join (xs.map (·.data.toList)) sep.data.toList).length ≤ 140737488355328 := by
      have := join_le sep.data.toList m (xs.map (·.data.toList)) (by
        intro x hx'
        obtain ⟨y, hy, rfl⟩ := List.mem_map.1 hx'
        exact hx y hy)
      have e2 : sep.data.toList.length = sep.size := Array.length_toList (xs := sep.data)
      rw [e2, List.length_map] at this
      have h5 : xs.length * (sep.size + m) ≤ 100 * 2000 := Nat.mul_le_mul hs (by omega)
      omega
    refine (Tryz.strings_Join g 0 cap xs sep w ?_ (Array.getElem?_eq_some_iff.1 hg).1 (by omega) h1 hlen).mono ?_
    · intro j x hj
      have hjl := getElem?_lt hj
      rw [Nat.zero_add, row.cellAt j (by omega), List.getElem?_map, hj]
      rfl
    · rintro e w' ⟨rfl, hB⟩
      exact ⟨rfl, Ext.of_below hB⟩
theorem fit_parts {q : QI} (h : fitI q = true) : fitHead q ∧ (∀ c ∈ q.cols, fitC c = true) ∧ (∀ c ∈ q.whr, fitD c = true) := by
  unfold fitI at h
  simp only [Bool.and_eq_true, decide_eq_true_eq, List.all_eq_true] at h
  exact h
end Go.Proofs.YtkpholfdjgdjnaaGreatDoor
