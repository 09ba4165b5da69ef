/- Texts of the claim, joined: S4 S5 S6. -/
import Derived.Shelf.SlSortCmp.QuietGrown
import Derived.Test.YtkpholfdjgdjnaaGreatDoorM06
import Derived.Deep.RegionWith
namespace Go.Proofs.YtkpholfdjgdjnaaGreatDoor
open Go Go.RowKit Go.Proofs Go.Sort
theorem PR.what_small {w : World} {r a : Nat} {L : List Tok} {size : Nat} (h : PR w r a L size) : (whatOf L).size ≤ 4096 := by
  cases L with
  | nil => decide
  | cons t L => exact (h.toks t (by simp)).2.1
theorem pNum_none {size : Nat} {lo hi : Int} {L : List Tok} (h : numOf (whatOf L) = none) : pNum size lo hi L = .error (atOf size L, 31) := by
  cases L with
  | nil => rfl
  | cons t L =>
    unfold pNum
    simp only [whatOf] at h
    simp only [h]
    rfl
theorem below_ext {w w' : World} (h : Below w.heap.size w w') : Ext [] w w' := Ext.of_below h
theorem pnum_bad (w : World) (r a : Nat) (L : List Tok) (size : Nat) (lo hi : Int) (h : PR w r a L size) (hn : numOf (whatOf L) = none) (hp : ∀ v, Lib.parseIntB 64 (whatOf L).data.toList ≠ .ok v) :
    Calls Tryz.prog 75 #[.pointer (some ⟨r, 0, none⟩), .int .i64 lo, .int .i64 hi] w (PDone (fun n => .int .i64 n) (pNum size lo hi L) w r a size) := by
  have Hp := Lib.hid (pNum_none (size := size) (lo := lo) (hi := hi) hn)
  have c1 := h.what
  have hsm := h.what_small
  have env := h.base.env
  have hh := Lib.hid h
  have HP : Calls Tryz.prog 130 #[.string (whatOf L), .int .i64 10, .int .i64 64] w fun e w' => ∃ v u N, e = .returned (.tuple #[.int .i64 v, .iface u (.pointer (some ⟨N, 0, none⟩))]) ∧ Ext [] w w' := by
    rcases hq : Lib.parseIntB 64 (whatOf L).data.toList with v | _ | _
    · exact absurd hq (hp v)
    · obtain ⟨tp, p, hv⟩ := env.syn
      refine (Tryz.strconv_ParseInt_10_at64_syntax_var (whatOf L) (by omega) hq ⟨(fun _ h => by cases h), (fun h => by cases h)⟩ tp p w hv).mono ?_
      rintro e w' ⟨N, rfl, _, _, hb⟩
      exact ⟨_, _, N, rfl, below_ext hb⟩
    · obtain ⟨tp, p, hv⟩ := env.rng
      refine (Tryz.strconv_ParseInt_10_at64_range_var (whatOf L) (by omega) hq tp p w hv).mono ?_
      rintro e w' ⟨N, rfl, _, _, hb⟩
      exact ⟨_, _, N, rfl, below_ext hb⟩
  clear hn hp h env
  go_enter Tryz.func75, Tryz.ntmps75
  go_wp2_with (go_at_call 130; refine HP.mono ?_; rintro e w1 ⟨v, u, N, rfl, E1⟩; have P1 := hh.out.keep E1)
  go_quiet (fail)
  go_wp2_with (go_at_call 76; refine (throw_calls _ r a L size 31 (P1.keep ((Ext.refl [] _).drewN _))).mono ?_; rintro e w2 ⟨rfl, rfl⟩; unfold thrown)
  refine ⟨rfl, (E1.drewN _).nil, ?_⟩
  rw [Hp.out]
  rfl
theorem grow_ext {w w' : World} {k : Nat} {os : Array Obj} (h : w' = grow (w.drewN k) os) : Ext [] w w' := by
  subst h
  refine ⟨rfl, rfl, rfl, ?_, fun i hi _ => ?_⟩
  · simp [grow, World.drewN]
  · simp only [grow, World.drewN]
    rw [Array.getElem?_append_left hi]
theorem ext_grow (w : World) (k : Nat) (os : Array Obj) : Ext [] w (grow (w.drewN k) os) := grow_ext rfl
theorem ext_bytes {w w' : World} {e : TypeId} (h : w' = w ∨ ∃ t, w' = Lib.bytesWorld w e t) : Ext [] w w' := by
  rcases h with rfl | ⟨t, rfl⟩
  · exact Ext.refl _ _
  · refine ⟨rfl, rfl, rfl, ?_, fun i hi _ => Lib.bytesWorld_at_old w e t i hi⟩
    rw [Lib.bytesWorld_size]
    omega
theorem tab_env {w : World} (h : Env w) : Lib.TabIs Tryz.prog w "internal/strconv.uint64pow10" .u64 Lib.pow10Tab := h.tab
set_option maxHeartbeats 2000000 in
theorem pnum_other (w : World) (r a : Nat) (L : List Tok) (size : Nat) (lo hi v : Int) (h : PR w r a L size) (hn : numOf (whatOf L) = none) (hp : Lib.parseIntB 64 (whatOf L).data.toList = .ok v) :
    Calls Tryz.prog 75 #[.pointer (some ⟨r, 0, none⟩), .int .i64 lo, .int .i64 hi] w (PDone (fun n => .int .i64 n) (pNum size lo hi L) w r a size) := by
  have Hp := Lib.hid (pNum_none (size := size) (lo := lo) (hi := hi) hn)
  have c1 := h.what
  have hsm := h.what_small
  have hh := Lib.hid h
  have hv := parse_range hp
  have HV := Lib.hid hv
  have hne : (ByteArray.toList ⟨(Lib.itoa v).toArray⟩ == (whatOf L).toList) = false := by
    rw [str_eq]
    simp only [decide_eq_false_iff_not]
    intro he
    have := numOf_itoa (s := whatOf L) (n := v) (by rw [← he]) hv.1 hv.2
    rw [this] at hn
    cases hn
  generalize hs2 : (⟨(Lib.itoa v).toArray⟩ : ByteArray) = s2 at hne
  have HF : ∀ w', Env w' → Calls Tryz.prog 89 #[.int .i64 v, .int .i64 10] w' fun e w'' => e = .returned (.string s2) ∧ ∃ k os, w'' = grow (w'.drewN k) os := fun w' he => by
    rw [← hs2]
    exact Tryz.strconv_FormatInt_10 v HV.out.1 (by have := HV.out.2; unfold lim63 at this; omega) _ (tab_env he)
  clear hs2
  have Hq := Lib.hid hp
  clear hn hp h hv
  generalize hs : whatOf L = s at *
  clear hs
  go_enter Tryz.func75, Tryz.ntmps75
  go_wp2_with (go_at_call 130; refine (Tryz.strconv_ParseInt_10_at64_ok s (by omega) v Hq.out w).mono ?_; rintro e w1 ⟨rfl, E1⟩; have E1 := ext_bytes E1; have P1 := hh.out.keep E1; have d1 : w1.cell? ⟨r, 1, none⟩ = some (.string s) := E1.keeps c1 (by simp); have HC : ∀ k os, (grow (w1.drewN k) os).cell? ⟨r, 1, none⟩ = some (.string s) := fun k os => (ext_grow w1 k os).keeps d1 (by simp))
  have mixed : Tryz.prog.follows Departure.mixedOrders = true := by kernel_rfl
  go_quiet_grown (first | (go_at_call 89; refine Calls.grown_of (HF _ (P1.base.env.ext (ext_grow w1 _ _)))))
  all_goals
    refine absW ?_
    intro W hW
    have EW : Ext [] w1 W := by rw [hW]; repeat (first | exact Ext.refl _ _ | exact ext_grow _ _ _ | with_reducible refine Ext.drewN ?_ _ | with_reducible refine Ext.drew ?_)
    have PW := P1.keep EW
    clear hW
    go_wp2_with (go_at_call 76; refine (throw_calls _ r a L size 31 PW).mono ?_; rintro e w2 ⟨rfl, rfl⟩; unfold thrown)
    refine ⟨rfl, (E1.trans EW).nil, ?_⟩
    rw [Hp.out]
    rfl
set_option maxHeartbeats 4000000 in
theorem pnum_good (w : World) (r a : Nat) (L : List Tok) (size : Nat) (lo hi n : Int) (h : PR w r a L size) (hn : numOf (whatOf L) = some n) :
    Calls Tryz.prog 75 #[.pointer (some ⟨r, 0, none⟩), .int .i64 lo, .int .i64 hi] w (PDone (fun n => .int .i64 n) (pNum size lo hi L) w r a size) := by
  obtain ⟨t, L', rfl⟩ : ∃ t L', L = t :: L' := by
    cases L with
    | nil => cases hn
    | cons t L => exact ⟨t, L, rfl⟩
  have Hp : Hid (pNum size lo hi (t :: L') = if lo ≤ n ∧ n ≤ hi then .ok (n, L') else .error (t.2, 31)) := by
    unfold Hid pNum
    simp only [whatOf] at hn
    simp only [hn]
  have c1 := h.what
  have hsm := h.what_small
  have hh := Lib.hid h
  obtain ⟨hl, hv⟩ := numOf_form hn
  have HV := Lib.hid hv
  have hs2 : (⟨(Lib.itoa n).toArray⟩ : ByteArray) = whatOf (t :: L') := by
    rw [← hl]
  have HF : ∀ w', Env w' → Calls Tryz.prog 89 #[.int .i64 n, .int .i64 10] w' fun e w'' => e = .returned (.string (whatOf (t :: L'))) ∧ ∃ k os, w'' = grow (w'.drewN k) os := fun w' he => by
    rw [← hs2]
    exact Tryz.strconv_FormatInt_10 n HV.out.1 (by have := HV.out.2; unfold lim63 at this; omega) _ (tab_env he)
  have Hq := Lib.hid (parse_itoa hv.1 hv.2)
  rw [← hl] at Hq
  clear hn h hv hl hs2
  generalize hs : whatOf (t :: L') = s at *
  clear hs
  rcases hlo : decide (n < lo) with _ | _
  · rcases hhi : decide (hi < n) with _ | _
    · have Hr : Hid (pNum size lo hi (t :: L') = .ok (n, L')) := by
        have h1 := of_decide_eq_false hlo
        have h2 := of_decide_eq_false hhi
        unfold Hid
        rw [Hp.out, if_pos (by omega)]
      clear Hp
      go_enter Tryz.func75, Tryz.ntmps75
      go_wp2_with (go_at_call 130; refine (Tryz.strconv_ParseInt_10_at64_ok s (by omega) n Hq.out w).mono ?_; rintro e w1 ⟨rfl, E1⟩; have E1 := ext_bytes E1; have P1 := hh.out.keep E1; have d1 : w1.cell? ⟨r, 1, none⟩ = some (.string s) := E1.keeps c1 (by simp); have HC : ∀ k os, (grow (w1.drewN k) os).cell? ⟨r, 1, none⟩ = some (.string s) := fun k os => (ext_grow w1 k os).keeps d1 (by simp))
      have mixed : Tryz.prog.follows Departure.mixedOrders = true := by kernel_rfl
      go_quiet_grown (first | (go_at_call 89; refine Calls.grown_of (HF _ (P1.base.env.ext (ext_grow w1 _ _)))))
      all_goals
        refine absW ?_
        intro W hW
        have EW : Ext [] w1 W := by rw [hW]; repeat (first | exact Ext.refl _ _ | exact ext_grow _ _ _ | with_reducible refine Ext.drewN ?_ _ | with_reducible refine Ext.drew ?_)
        have PW := P1.keep EW
        clear hW
        go_wp2_with (go_at_call 28; refine (step_calls _ r a (t :: L') size PW).mono ?_; rintro e w2 ⟨rfl, E2, P2⟩)
        go_ret
        refine ⟨(E1.trans EW).nil.trans E2, ?_⟩
        rw [Hr.out]
        exact ⟨rfl, P2⟩
    · have Hr : Hid (pNum size lo hi (t :: L') = .error (t.2, 31)) := by
        have h2 := of_decide_eq_true hhi
        unfold Hid
        rw [Hp.out, if_neg (by omega)]
      clear Hp
      go_enter Tryz.func75, Tryz.ntmps75
      go_wp2_with (go_at_call 130; refine (Tryz.strconv_ParseInt_10_at64_ok s (by omega) n Hq.out w).mono ?_; rintro e w1 ⟨rfl, E1⟩; have E1 := ext_bytes E1; have P1 := hh.out.keep E1; have d1 : w1.cell? ⟨r, 1, none⟩ = some (.string s) := E1.keeps c1 (by simp); have HC : ∀ k os, (grow (w1.drewN k) os).cell? ⟨r, 1, none⟩ = some (.string s) := fun k os => (ext_grow w1 k os).keeps d1 (by simp))
      have mixed : Tryz.prog.follows Departure.mixedOrders = true := by kernel_rfl
      go_quiet_grown (first | (go_at_call 89; refine Calls.grown_of (HF _ (P1.base.env.ext (ext_grow w1 _ _)))))
      all_goals
        refine absW ?_
        intro W hW
        have EW : Ext [] w1 W := by rw [hW]; repeat (first | exact Ext.refl _ _ | exact ext_grow _ _ _ | with_reducible refine Ext.drewN ?_ _ | with_reducible refine Ext.drew ?_)
        have PW := P1.keep EW
        clear hW
        go_wp2_with (go_at_call 76; refine (throw_calls _ r a (t :: L') size 31 PW).mono ?_; rintro e w2 ⟨rfl, rfl⟩; unfold thrown)
        refine ⟨rfl, (E1.trans EW).nil, ?_⟩
        rw [Hr.out]
        rfl
  · have Hr : Hid (pNum size lo hi (t :: L') = .error (t.2, 31)) := by
      have h2 := of_decide_eq_true hlo
      unfold Hid
      rw [Hp.out, if_neg (by omega)]
    clear Hp
    go_enter Tryz.func75, Tryz.ntmps75
    go_wp2_with (go_at_call 130; refine (Tryz.strconv_ParseInt_10_at64_ok s (by omega) n Hq.out w).mono ?_; rintro e w1 ⟨rfl, E1⟩; have E1 := ext_bytes E1; have P1 := hh.out.keep E1; have d1 : w1.cell? ⟨r, 1, none⟩ = some (.string s) := E1.keeps c1 (by simp); have HC : ∀ k os, (grow (w1.drewN k) os).cell? ⟨r, 1, none⟩ = some (.string s) := fun k os => (ext_grow w1 k os).keeps d1 (by simp))
    have mixed : Tryz.prog.follows Departure.mixedOrders = true := by kernel_rfl
    go_quiet_grown (first | (go_at_call 89; refine Calls.grown_of (HF _ (P1.base.env.ext (ext_grow w1 _ _)))))
    all_goals
      refine absW ?_
      intro W hW
      have EW : Ext [] w1 W := by rw [hW]; repeat (first | exact Ext.refl _ _ | exact ext_grow _ _ _ | with_reducible refine Ext.drewN ?_ _ | with_reducible refine Ext.drew ?_)
      have PW := P1.keep EW
      clear hW
      go_wp2_with (go_at_call 76; refine (throw_calls _ r a (t :: L') size 31 PW).mono ?_; rintro e w2 ⟨rfl, rfl⟩; unfold thrown)
      refine ⟨rfl, (E1.trans EW).nil, ?_⟩
      rw [Hr.out]
      rfl
theorem pnumber_calls (w : World) (r a : Nat) (L : List Tok) (size : Nat) (lo hi : Int) (h : PR w r a L size) :
    Calls Tryz.prog 75 #[.pointer (some ⟨r, 0, none⟩), .int .i64 lo, .int .i64 hi] w (PDone (fun n => .int .i64 n) (pNum size lo hi L) w r a size) := by
  rcases hn : numOf (whatOf L) with _ | n
  · rcases hp : Lib.parseIntB 64 (whatOf L).data.toList with v | _ | _
    · exact pnum_other w r a L size lo hi v h hn hp
    · exact pnum_bad w r a L size lo hi h hn (by rw [hp]; intro v hv; cases hv)
    · exact pnum_bad w r a L size lo hi h hn (by rw [hp]; intro v hv; cases hv)
  · exact pnum_good w r a L size lo hi n h hn
end Go.Proofs.YtkpholfdjgdjnaaGreatDoor
namespace Go.Proofs.YtkpholfdjgdjnaaGreatDoor
open Go Go.RowKit Go.Proofs
theorem index_is (b : Nat) (l : List ByteArray) (s : ByteArray) (w : World) (n m : Nat) (hn : n = l.length) (hb : n ≤ 100) (h1 : 1 ≤ n)
  (hc : ∀ k, k < n → w.cell? ⟨b, k, none⟩ = some (.string (l[k]?.getD ByteArray.empty))) (hm : idx l s = m) :
    Calls Tryz.prog 127 #[.slice (some ⟨b, 0, none⟩) n n, .string s] w fun e w' => e = .returned (.int .i64 m) ∧ w = w' := by
  subst hm
  exact index_calls b l s w n hn hb h1 hc
theorem pname_is (s : ByteArray) (w : World) (h : TokOk s) (b : Bool) (hb : nameOk s = b) :
    Calls Tryz.prog 86 #[.string s] w fun e w' => e = .returned (.bool b) ∧ w' = w := by
  subst hb
  exact pname_calls s w h
theorem col_empty : idx colW ⟨#[]⟩ = 0 := by
  rcases Nat.eq_zero_or_pos (idx colW ⟨#[]⟩) with h | h
  · exact h
  · exfalso
    have hm := idxFrom_mem colW ⟨#[]⟩ 1 (by unfold idx at h; omega)
    simp only [colW, List.drop_succ_cons, List.drop_zero, List.mem_cons, List.not_mem_nil, or_false] at hm
    rcases hm with hm | hm | hm | hm | hm | hm | hm | hm | hm <;> exact absurd hm (by decide)
theorem opOf_what (L : List Tok) : opOf L = idx colW (whatOf L) := by
  cases L with
  | nil => exact col_empty.symm
  | cons t L => rfl
abbrev PColPost (w : World) (r a : Nat) (L : List Tok) (size : Nat) : Ending → World → Prop := PDone colA (pCol size L) w r a size
theorem PR.frozen1 {w : World} {r a : Nat} {L : List Tok} {size : Nat} (h : PR w r a L size) : r < w.heap.size := h.blk.lt
theorem PR.alt {w : World} {r a : Nat} {L : List Tok} {size : Nat} (h : PR w r a L size) : a < w.heap.size := by
  obtain ⟨A, c, hA⟩ := h.all
  exact hA.blk.lt
theorem pwant_yes (w : World) (r a : Nat) (L : List Tok) (size : Nat) (s : ByteArray) (h : PR w r a L size) (hp : pHas s L = true) :
    Calls Tryz.prog 128 #[.pointer (some ⟨r, 0, none⟩), .string s] w fun e w' => e = .returned (.tuple #[]) ∧ Ext [r, a] w w' ∧ PR w' r a L.tail size := by
  refine (pwant_calls w r a L size s h).mono ?_
  rintro e w' ⟨h1, h2⟩
  unfold pWant at h2
  rw [if_pos hp] at h2
  exact ⟨h2.1, h1, h2.2⟩
theorem pwant_no (w : World) (r a : Nat) (L : List Tok) (size : Nat) (s : ByteArray) (h : PR w r a L size) (hp : pHas s L = false) :
    Calls Tryz.prog 128 #[.pointer (some ⟨r, 0, none⟩), .string s] w fun e w' => e = thrown (atOf size L) 61 ∧ Ext [r, a] w w' := by
  refine (pwant_calls w r a L size s h).mono ?_
  rintro e w' ⟨h1, h2⟩
  unfold pWant at h2
  rw [if_neg (by rw [hp]; decide)] at h2
  exact ⟨h2, h1⟩
structure OwnP (s b : Nat) (W : World) (n : Int) (nm : ByteArray) : Prop where
  c0 : W.cell? ⟨b, 0, none⟩ = some (.int .i64 n)
  c1 : W.cell? ⟨b, 1, none⟩ = some (.string nm)
  d0 : W.cell? ⟨s, 0, none⟩ = some (.int .i64 0)
  d1 : W.cell? ⟨s, 1, none⟩ = some (.string ⟨#[]⟩)
  f0 : W.frozen? ⟨s, 0, none⟩ = false
  f1 : W.frozen? ⟨s, 1, none⟩ = false
  f2 : W.frozen? ⟨b, 1, none⟩ = false
  lt : s < b
theorem OwnP.ext {s b : Nat} {W W' : World} {n : Int} {nm : ByteArray} {S : List Nat} (h : OwnP s b W n nm) (e : Ext S W W') (hs : ∀ x ∈ S, x < s) : OwnP s b W' n nm := by
  have hlt := h.lt
  have n0 : s ∉ S := fun hx => Nat.lt_irrefl _ (hs _ hx)
  have n1 : b ∉ S := fun hx => by have := hs _ hx; omega
  have l0 : s < W.heap.size := World.block_lt_of_cell? W _ h.d0
  have l1 : b < W.heap.size := World.block_lt_of_cell? W _ h.c0
  exact ⟨e.keeps h.c0 n1, e.keeps h.c1 n1, e.keeps h.d0 n0, e.keeps h.d1 n0, (e.frozen l0 n0).trans h.f0, (e.frozen l0 n0).trans h.f1, (e.frozen l1 n1).trans h.f2, h.lt⟩
theorem tab_cells' (w : World) (l : List ByteArray) (t : TypeId) (o : Obj) (m n : Nat) (hn : n = w.heap.size) (hm : m = l.length) : ∀ k, k < m → ((w.alloc (.cells (tabV l) t)).alloc o).cell? ⟨n, k, none⟩ = some (.string (l[k]?.getD ByteArray.empty)) := by
  intro k hk
  exact ((Ext.refl [] _).alloc o).keeps (tab_cells w l t m n hn hm k hk) (by simp)
set_option maxRecDepth 100000 in
set_option maxHeartbeats 2000000 in
theorem pcol_at (w : World) (r a : Nat) (L : List Tok) (size : Nat) (h : PR w r a L size) (n : Nat) (h0 : opOf L = n) (hn10 : n < 10) :
    Calls Tryz.prog 71 #[.pointer (some ⟨r, 0, none⟩)] w (PColPost w r a L size) := by
  have h0' := h0
  rw [opOf_what] at h0
  have c1 := h.what
  have H0 := Lib.hid h0
  clear h0
  generalize hs : whatOf L = s at *
  have hr := h.frozen1
  go_enter Tryz.func71, Tryz.ntmps71
  go_upto_region 1 with fail
  go_cut [3] (fun v W => ∃ b, v = .pointer (some ⟨b, 0, none⟩) ∧ Ext [] w W ∧ OwnP w.heap.size b W n ⟨#[]⟩)
  case first =>
    go_region_held3 (fun w' => w'.cell? ⟨r, 1, none⟩ = some (.string s)) (first | (refine Ext.keeps (S := []) ?_ c1 (by simp); (repeat (first | exact Ext.refl _ _ | with_reducible refine Ext.alloc ?_ _ | with_reducible refine Ext.drewN ?_ _ | with_reducible refine Ext.drew ?_ | with_reducible refine Ext.setCell ?_ _ (by simp) _))) | go_keep)
      (first
        | (go_at_call 88; refine (columns_calls _).mono ?_; rintro e w' ⟨rfl, rfl⟩)
        | (go_at_call 127; refine (index_is _ colW s _ 10 n rfl (by omega) (by omega) ?_ H0.out).mono ?_; (first | exact tab_cells _ colW 9 10 _ (by simp [World.drewN]) rfl | exact tab_cells' _ colW 9 _ 10 _ (by simp [World.drewN]) rfl); rintro e w' ⟨rfl, rfl⟩))
    all_goals (go_wp2_with fail)
    all_goals (go_meet; (case rel => (refine ⟨_, rfl, ?_, ?_⟩; (repeat (first | exact Ext.refl _ _ | with_reducible refine Ext.alloc ?_ _ | with_reducible refine Ext.drewN ?_ _ | with_reducible refine Ext.drew ?_ | with_reducible refine Ext.setCell ?_ _ (by first | (simp; done) | (simp; omega)) _)); (constructor <;> first | (simp [go_sem]; done) | (simp; omega)))))
  case rest =>
    obtain ⟨b, rfl, E, O⟩ := hcut
    have PW := h.keep E
    obtain ⟨q0, q1, q2, q3, f0, f1, f2, hlt⟩ := O
    by_cases hn0 : n = 0
    · subst hn0
      have HP : Hid (pCol size L = .error (atOf size L, 61)) := by unfold Hid pCol; rw [h0', if_pos rfl]
      clear h0'
      go_wp2_with (go_at_call 76; refine (throw_calls _ r a L size 61 PW).mono ?_; rintro e w2 ⟨rfl, rfl⟩; unfold thrown)
      refine ⟨rfl, E.nil, ?_⟩
      rw [HP.out]
      rfl
    have hnz : ((n : Int) == 0) = false := by simp; omega
    have H0' := Lib.hid h0'
    have Hn0 := Lib.hid hn0
    clear h0' hn0
    by_cases hn6 : n < 6
    · have HP : Hid (pCol size L = .ok (⟨n, ⟨#[]⟩⟩, L.tail)) := by unfold Hid pCol; rw [H0'.out, if_neg Hn0.out, if_pos hn6]
      go_wp2_with (go_at_call 28; refine (step_calls _ r a L size PW).mono ?_; rintro e w1 ⟨rfl, E1, P1⟩; have O1 := OwnP.ext (S := [r, a]) ⟨q0, q1, q2, q3, f0, f1, f2, hlt⟩ E1 (by have := h.alt; simp; omega); clear q0 q1 q2 q3 f0 f1 f2; obtain ⟨q0, q1, q2, q3, f0, f1, f2, _⟩ := O1)
      refine bodyPost_ret (v := .agg #[.int .i64 n, .string ⟨#[]⟩]) (by simp [results, Tryz.results71, go_sem, q2, q3, f0, f1]) rfl ?_
      refine ⟨((E.nil.trans E1).setCell _ (by simp) _).setCell _ (by simp) _, ?_⟩
      rw [HP.out]
      exact ⟨rfl, (P1.set_new _ _ (by simpa using hr)).set_new _ _ (by simpa using hr)⟩
    · have H6 := Lib.hid hn6
      have h6 : decide ((n : Int) < 6) = false := by simp; omega
      have Hhi := Lib.hid (show 6 ≤ n by omega)
      clear hn6
      have hra : ∀ x ∈ [r, a], x < w.heap.size := by have := h.alt; simp; omega
      rcases hp : pHas sLpar L.tail with _ | _
      · have HP : Hid (pCol size L = .error (atOf size L.tail, 61)) := by
          unfold Hid pCol; rw [H0'.out, if_neg Hn0.out, if_neg H6.out]; unfold pWant; rw [hp]; rfl
        have Hp := Lib.hid hp
        clear hp
        go_wp2_with (first
          | (go_at_call 28; refine (step_calls _ r a L size PW).mono ?_; rintro e w1 ⟨rfl, E1, P1⟩; have O1 := OwnP.ext (S := [r, a]) ⟨q0, q1, q2, q3, f0, f1, f2, hlt⟩ E1 hra; clear q0 q1 q2 q3 f0 f1 f2; obtain ⟨q0, q1, q2, q3, f0, f1, f2, _⟩ := O1)
          | (go_at_call 128; refine (pwant_no _ r a L.tail size sLpar P1 Hp.out).mono ?_; rintro e w2 ⟨rfl, E2⟩; unfold thrown))
        refine ⟨rfl, (E.nil.trans E1).trans E2, ?_⟩
        rw [HP.out]
        rfl
      · have HW : Hid (pWant size sLpar L.tail = .ok ((), L.tail.tail)) := by unfold Hid pWant; rw [if_pos hp]
        have Hp := Lib.hid hp
        clear hp
        generalize hL2 : L.tail.tail = L2 at *
        rcases L2 with _ | ⟨t, L3⟩
        · have HP : Hid (pCol size L = .error (size, 45)) := by
            unfold Hid pCol; rw [H0'.out, if_neg Hn0.out, if_neg H6.out, HW.out]; rfl
          go_wp2_with (first
            | (go_at_call 28; refine (step_calls _ r a L size PW).mono ?_; rintro e w1 ⟨rfl, E1, P1⟩; have O1 := OwnP.ext (S := [r, a]) ⟨q0, q1, q2, q3, f0, f1, f2, hlt⟩ E1 hra; clear q0 q1 q2 q3 f0 f1 f2; obtain ⟨q0, q1, q2, q3, f0, f1, f2, _⟩ := O1)
            | (go_at_call 128; refine (pwant_yes _ r a L.tail size sLpar P1 Hp.out).mono ?_; rintro e w2 ⟨rfl, E2, P2⟩; rw [hL2] at P2; have k2 := P2.ok; simp only [List.isEmpty_nil, Bool.not_true] at k2)
            | (go_at_call 76; refine (throw_calls _ r a [] size 45 P2).mono ?_; rintro e w2 ⟨rfl, rfl⟩; unfold thrown))
          refine ⟨rfl, (E.nil.trans E1).trans E2, ?_⟩
          rw [HP.out]
          rfl
        · rcases hn2 : nameOk t.1 with _ | _
          · have HP : Hid (pCol size L = .error (t.2, 45)) := by
              unfold Hid pCol; rw [H0'.out, if_neg Hn0.out, if_neg H6.out, HW.out]; simp only; unfold pName; simp only; rw [hn2]; rfl
            have Hn2 := Lib.hid hn2
            clear hn2
            go_wp2_with (first
              | (go_at_call 28; refine (step_calls _ r a L size PW).mono ?_; rintro e w1 ⟨rfl, E1, P1⟩; have O1 := OwnP.ext (S := [r, a]) ⟨q0, q1, q2, q3, f0, f1, f2, hlt⟩ E1 hra; clear q0 q1 q2 q3 f0 f1 f2; obtain ⟨q0, q1, q2, q3, f0, f1, f2, _⟩ := O1)
              | (go_at_call 128; refine (pwant_yes _ r a L.tail size sLpar P1 Hp.out).mono ?_; rintro e w2 ⟨rfl, E2, P2⟩; rw [hL2] at P2; have k2 := P2.ok; have k1 := P2.what; simp only [List.isEmpty_cons, Bool.not_false] at k2; replace k1 : w2.cell? ⟨r, 1, none⟩ = some (.string t.1) := k1)
              | (go_at_call 86; refine (pname_is t.1 _ (P2.toks t (by simp)) false Hn2.out).mono ?_; rintro e w3 ⟨rfl, rfl⟩)
              | (go_at_call 76; refine (throw_calls _ r a (t :: L3) size 45 P2).mono ?_; rintro e w2 ⟨rfl, rfl⟩; unfold thrown))
            refine ⟨rfl, (E.nil.trans E1).trans E2, ?_⟩
            rw [HP.out]
            rfl
          · have Hn2 := Lib.hid hn2
            have HN : Hid (pName size (t :: L3) = .ok (t.1, L3)) := by unfold Hid pName; simp only; rw [if_pos hn2]
            clear hn2
            have hbr : r < b := by omega
            rcases hp3 : pHas sRpar L3 with _ | _
            · have HP : Hid (pCol size L = .error (atOf size L3, 61)) := by
                unfold Hid pCol; rw [H0'.out, if_neg Hn0.out, if_neg H6.out, HW.out]; simp only; rw [HN.out]; simp only; unfold pWant; rw [hp3]; rfl
              have Hp3 := Lib.hid hp3
              clear hp3
              go_wp2_with (first
                | (go_at_call 28; refine (step_calls _ r a L size PW).mono ?_; rintro e w1 ⟨rfl, E1, P1⟩; have O1 := OwnP.ext (S := [r, a]) ⟨q0, q1, q2, q3, f0, f1, f2, hlt⟩ E1 hra; clear q0 q1 q2 q3 f0 f1 f2; have ⟨q0, q1, q2, q3, f0, f1, f2, _⟩ := O1)
                | (go_at_call 128; refine (pwant_yes _ r a L.tail size sLpar P1 Hp.out).mono ?_; rintro e w2 ⟨rfl, E2, P2⟩; rw [hL2] at P2; have k2 := P2.ok; have k1 := P2.what; have O2 := OwnP.ext (S := [r, a]) O1 E2 hra; simp only [List.isEmpty_cons, Bool.not_false] at k2; replace k1 : w2.cell? ⟨r, 1, none⟩ = some (.string t.1) := k1)
                | (go_at_call 86; refine (pname_is t.1 _ (P2.toks t (by simp)) true Hn2.out).mono ?_; rintro e w3 ⟨rfl, rfl⟩)
                | (go_at_call 129; refine (ptake_calls _ r a (t :: L3) size P2).mono ?_; rintro e w4 ⟨rfl, E4, P4⟩; have O4 := OwnP.ext (S := [r, a]) O2 E4 hra; clear q0 q1 q2 q3 f0 f1 f2; obtain ⟨q0, q1, q2, q3, f0, f1, f2, _⟩ := O4)
                | (go_at_call 128; refine (pwant_no _ r a L3 size sRpar (P4.set_new _ _ hbr) Hp3.out).mono ?_; rintro e w5 ⟨rfl, E5⟩; unfold thrown))
              refine ⟨rfl, (((E.nil.trans E1).trans E2).trans E4 |>.setCell ⟨b, 1, none⟩ (by simp; omega) _).trans E5, ?_⟩
              rw [HP.out]
              rfl
            · have HP : Hid (pCol size L = .ok (⟨n, t.1⟩, L3.tail)) := by
                unfold Hid pCol; rw [H0'.out, if_neg Hn0.out, if_neg H6.out, HW.out]; simp only; rw [HN.out]; simp only; unfold pWant; rw [if_pos hp3]
              have Hp3 := Lib.hid hp3
              clear hp3
              go_wp2_with (first
                | (go_at_call 28; refine (step_calls _ r a L size PW).mono ?_; rintro e w1 ⟨rfl, E1, P1⟩; have O1 := OwnP.ext (S := [r, a]) ⟨q0, q1, q2, q3, f0, f1, f2, hlt⟩ E1 hra; clear q0 q1 q2 q3 f0 f1 f2; have ⟨q0, q1, q2, q3, f0, f1, f2, _⟩ := O1)
                | (go_at_call 128; refine (pwant_yes _ r a L.tail size sLpar P1 Hp.out).mono ?_; rintro e w2 ⟨rfl, E2, P2⟩; rw [hL2] at P2; have k2 := P2.ok; have k1 := P2.what; have O2 := OwnP.ext (S := [r, a]) O1 E2 hra; simp only [List.isEmpty_cons, Bool.not_false] at k2; replace k1 : w2.cell? ⟨r, 1, none⟩ = some (.string t.1) := k1)
                | (go_at_call 86; refine (pname_is t.1 _ (P2.toks t (by simp)) true Hn2.out).mono ?_; rintro e w3 ⟨rfl, rfl⟩)
                | (go_at_call 129; refine (ptake_calls _ r a (t :: L3) size P2).mono ?_; rintro e w4 ⟨rfl, E4, P4⟩; have O4 := OwnP.ext (S := [r, a]) O2 E4 hra; clear q0 q1 q2 q3 f0 f1 f2; obtain ⟨q0, q1, q2, q3, f0, f1, f2, _⟩ := O4)
                | (go_at_call 128; refine (pwant_yes _ r a L3 size sRpar (P4.set_new _ _ hbr) Hp3.out).mono ?_; rintro e w5 ⟨rfl, E5, P5⟩; have O5 : OwnP w.heap.size b (w4.setCell ⟨b, 1, none⟩ (.string t.1)) n t.1 := (by constructor <;> first | (simp [go_sem, q0, q1, q2, q3, f0, f1, f2, hlt]; done) | (simp [go_sem, q0, q1, q2, q3, f0, f1, f2, hlt]; omega)); have O6 := OwnP.ext (S := [r, a]) O5 E5 hra; clear q0 q1 q2 q3 f0 f1 f2; obtain ⟨q0, q1, q2, q3, f0, f1, f2, _⟩ := O6))
              refine bodyPost_ret (v := .agg #[.int .i64 n, .string t.1]) (by simp [results, Tryz.results71, go_sem, q2, q3, f0, f1]) rfl ?_
              refine ⟨((((((E.nil.trans E1).trans E2).trans E4).setCell ⟨b, 1, none⟩ (by simp; omega) _).trans E5).setCell _ (by simp) _).setCell _ (by simp) _, ?_⟩
              rw [HP.out]
              exact ⟨rfl, (P5.set_new _ _ (by simpa using hr)).set_new _ _ (by simpa using hr)⟩
theorem pcol_calls (w : World) (r a : Nat) (L : List Tok) (size : Nat) (h : PR w r a L size) :
    Calls Tryz.prog 71 #[.pointer (some ⟨r, 0, none⟩)] w (PColPost w r a L size) := by
  refine pcol_at w r a L size h (opOf L) rfl ?_
  rw [opOf_what]
  have := idxFrom_lt colW (whatOf L) 1
  have e : colW.length = 10 := rfl
  unfold idx
  omega
end Go.Proofs.YtkpholfdjgdjnaaGreatDoor
namespace Go.Proofs.YtkpholfdjgdjnaaGreatDoor
open Go Go.RowKit Go.Proofs
theorem PDone.ok {α : Type} {enc : α → Value} {res : Res α} {w : World} {r a size : Nat} {x : Ending} {w' : World} (h : PDone enc res w r a size x w') {v : α} {L : List Tok} (hr : res = .ok (v, L)) :
    x = .returned (enc v) ∧ Ext [r, a] w w' ∧ PR w' r a L size := by
  subst hr
  exact ⟨h.2.1, h.1, h.2.2⟩
theorem PDone.err {α : Type} {enc : α → Value} {res : Res α} {w : World} {r a size : Nat} {x : Ending} {w' : World} (h : PDone enc res w r a size x w') {p c : Nat} (hr : res = .error (p, c)) :
    x = thrown p c ∧ Ext [r, a] w w' := by
  subst hr
  exact ⟨h.2, h.1⟩
theorem pcol_ok (w : World) (r a : Nat) (L : List Tok) (size : Nat) (h : PR w r a L size) (c : ColZ) (L1 : List Tok) (hc : pCol size L = .ok (c, L1)) :
    Calls Tryz.prog 71 #[.pointer (some ⟨r, 0, none⟩)] w fun x w' => x = .returned (.agg #[.int .i64 c.op, .string c.name]) ∧ Ext [r, a] w w' ∧ PR w' r a L1 size :=
  (pcol_calls w r a L size h).mono fun _ _ k => k.ok hc
theorem pcol_err (w : World) (r a : Nat) (L : List Tok) (size : Nat) (h : PR w r a L size) (p e : Nat) (hc : pCol size L = .error (p, e)) :
    Calls Tryz.prog 71 #[.pointer (some ⟨r, 0, none⟩)] w fun x w' => x = thrown p e ∧ Ext [r, a] w w' :=
  (pcol_calls w r a L size h).mono fun _ _ k => k.err hc
theorem pnum_ok (w : World) (r a : Nat) (L : List Tok) (size : Nat) (lo hi : Int) (h : PR w r a L size) (n : Int) (L1 : List Tok) (hc : pNum size lo hi L = .ok (n, L1)) :
    Calls Tryz.prog 75 #[.pointer (some ⟨r, 0, none⟩), .int .i64 lo, .int .i64 hi] w fun x w' => x = .returned (.int .i64 n) ∧ Ext [r, a] w w' ∧ PR w' r a L1 size :=
  (pnumber_calls w r a L size lo hi h).mono fun _ _ k => k.ok hc
theorem pnum_err (w : World) (r a : Nat) (L : List Tok) (size : Nat) (lo hi : Int) (h : PR w r a L size) (p e : Nat) (hc : pNum size lo hi L = .error (p, e)) :
    Calls Tryz.prog 75 #[.pointer (some ⟨r, 0, none⟩), .int .i64 lo, .int .i64 hi] w fun x w' => x = thrown p e ∧ Ext [r, a] w w' :=
  (pnumber_calls w r a L size lo hi h).mono fun _ _ k => k.err hc
theorem cmp_empty : idx cmpW ⟨#[]⟩ = 0 := by
  rcases Nat.eq_zero_or_pos (idx cmpW ⟨#[]⟩) with h | h
  · exact h
  · exfalso
    have hm := idxFrom_mem cmpW ⟨#[]⟩ 1 (by unfold idx at h; omega)
    simp only [cmpW, List.drop_succ_cons, List.drop_zero, List.mem_cons, List.not_mem_nil, or_false] at hm
    rcases hm with hm | hm | hm | hm | hm | hm <;> exact absurd hm (by decide)
theorem cmpOf_what (L : List Tok) : cmpOf L = idx cmpW (whatOf L) := by
  cases L with
  | nil => exact cmp_empty.symm
  | cons t L => rfl
set_option maxRecDepth 100000 in
set_option maxHeartbeats 2000000 in
theorem pcond_calls (w : World) (r a : Nat) (L : List Tok) (size : Nat) (h : PR w r a L size) :
    Calls Tryz.prog 74 #[.pointer (some ⟨r, 0, none⟩)] w (PDone condA (pCond size L) w r a size) := by
  have hh := Lib.hid h
  have hr := h.frozen1
  have hra : ∀ x ∈ [r, a], x < w.heap.size := by have := h.alt; simp; omega
  clear h
  rcases hcol : pCol size L with ⟨p, e0⟩ | ⟨c, L1⟩
  · have HP : Hid (pCond size L = .error (p, e0)) := by unfold Hid pCond; rw [hcol]
    have Hc := Lib.hid hcol
    clear hcol
    go_enter Tryz.func74, Tryz.ntmps74
    go_wp2_with (go_at_call 71; refine (pcol_err _ r a L size (hh.out.keep ((Ext.refl [] w).alloc _)) p e0 Hc.out).mono ?_; rintro e w1 ⟨rfl, E1⟩; unfold thrown)
    refine ⟨rfl, ((Ext.refl [r, a] w).alloc _).trans E1, ?_⟩
    rw [HP.out]
    rfl
  · have Hc := Lib.hid hcol
    obtain ⟨m, hm⟩ : ∃ m, cmpOf L1 = m := ⟨_, rfl⟩
    have hm' := hm
    rw [cmpOf_what] at hm'
    have Hm := Lib.hid hm
    have Hm' := Lib.hid hm'
    clear hcol hm hm'
    go_enter Tryz.func74, Tryz.ntmps74
    by_cases hm0 : m = 0
    · subst hm0
      have HP : Hid (pCond size L = .error (atOf size L1, 61)) := by unfold Hid pCond; rw [Hc.out]; simp only; rw [if_pos Hm.out]
      go_wp2_with (first
        | (go_at_call 71; refine (pcol_ok _ r a L size (hh.out.keep ((Ext.refl [] w).alloc _)) c L1 Hc.out).mono ?_; rintro e w1 ⟨rfl, E1, P1⟩)
        | (go_at_call 41; refine (compares_calls _).mono ?_; rintro e w2 ⟨rfl, rfl⟩; have k1 := P1.what; have k1' := fun o o' => (((Ext.refl [] w1).alloc o).alloc o').keeps k1 (by simp))
        | (go_at_call 127; refine (index_is _ cmpW (whatOf L1) _ 7 0 rfl (by omega) (by omega) ?_ Hm'.out).mono ?_; (exact tab_cells _ cmpW 9 7 _ (by simp) rfl); rintro e w' ⟨rfl, rfl⟩)
        | (go_at_call 76; refine (throw_calls _ r a L1 size 61 (P1.keep ?_)).mono ?_; (repeat (first | exact Ext.refl _ _ | with_reducible refine Ext.alloc ?_ _)); rintro e w2 ⟨rfl, rfl⟩; unfold thrown))
      refine ⟨rfl, ?_, ?_⟩
      · refine (((Ext.refl [r, a] w).alloc _).trans E1).trans ?_
        repeat (first | exact Ext.refl _ _ | with_reducible refine Ext.alloc ?_ _)
      · rw [HP.out]
        rfl
    · have hmz : ((m : Int) == 0) = false := by simp; omega
      have Hm0 := Lib.hid hm0
      clear hm0
      go_wp2_with (first
        | (go_at_call 71; refine (pcol_ok _ r a L size (hh.out.keep ((Ext.refl [] w).alloc _)) c L1 Hc.out).mono ?_; rintro e w1 ⟨rfl, E1, P1⟩)
        | (go_at_call 41; refine (compares_calls _).mono ?_; rintro e w2 ⟨rfl, rfl⟩; have k1 := P1.what; have k1' := fun o o' => (((Ext.refl [] w1).alloc o).alloc o').keeps k1 (by simp))
        | (go_at_call 127; refine (index_is _ cmpW (whatOf L1) _ 7 m rfl (by omega) (by omega) ?_ Hm'.out).mono ?_; (exact tab_cells _ cmpW 9 7 _ (by simp) rfl); rintro e w' ⟨rfl, rfl⟩))
      refine absC ?_
      intro W hW
      have EW : Ext [] w1 W := by rw [hW]; exact (((Ext.refl [] w1).alloc _).alloc _).alloc _
      have B : Blk W (w1.heap.size + 1 + 1) [.int .i64 c.op, .string c.name, .int .i64 m, .int .i64 0] 59 := by
        rw [hW]
        have := Blk.new ((w1.alloc (Obj.cells #[Value.int IntKind.i64 c.op, Value.string c.name] 57)).alloc (Obj.cells (tabV cmpW) 9)) [.int .i64 c.op, .string c.name, .int .i64 m, .int .i64 0] 59
        simpa using this
      have S : Blk W w.heap.size [.int .i64 0, .string ⟨#[]⟩, .int .i64 0, .int .i64 0] 59 := ((Blk.new w [.int .i64 0, .string ⟨#[]⟩, .int .i64 0, .int .i64 0] 59).ext E1 (fun hx => Nat.lt_irrefl _ (hra _ hx))).ext EW (by simp)
      have hws : w.heap.size < w1.heap.size := by have := E1.size; simp at this; omega
      have PW := P1.keep EW
      have E0 : Ext [r, a] w W := (((Ext.refl [r, a] w).alloc _).trans E1).trans EW.nil
      generalize hbb : w1.heap.size + 1 + 1 = bb at *
      have hb1 : w.heap.size < bb := by omega
      have hb2 : r < bb := by omega
      have hB : ∀ x ∈ [r, a], x < bb := fun x hx => by have := hra x hx; omega
      clear hW hbb
      rcases hnum : pNum size (-9223372036854775808) 9223372036854775807 L1.tail with ⟨p, e0⟩ | ⟨n, L2⟩
      · have HP : Hid (pCond size L = .error (p, e0)) := by unfold Hid pCond; rw [Hc.out]; simp only; rw [if_neg (by rw [Hm.out]; exact Hm0.out), hnum]
        have Hn := Lib.hid hnum
        clear hnum
        refine (step_calls _ r a L1 size PW).mono ?_
        rintro e w3 ⟨rfl, E3, P3⟩
        go_wp2_with (go_at_call 75; refine (pnum_err _ r a L1.tail size _ _ P3 p e0 Hn.out).mono ?_; rintro e w4 ⟨rfl, E4⟩; unfold thrown)
        refine ⟨rfl, (E0.trans E3).trans E4, ?_⟩
        rw [HP.out]
        rfl
      · have HP : Hid (pCond size L = .ok (⟨c, m, n⟩, L2)) := by unfold Hid pCond; rw [Hc.out]; simp only; rw [if_neg (by rw [Hm.out]; exact Hm0.out), hnum, Hm.out]
        have Hn := Lib.hid hnum
        clear hnum
        refine (step_calls _ r a L1 size PW).mono ?_
        rintro e w3 ⟨rfl, E3, P3⟩
        go_wp2_with (go_at_call 75; refine (pnum_ok _ r a L1.tail size _ _ P3 n L2 Hn.out).mono ?_; rintro e w4 ⟨rfl, E4, P4⟩; have B4 := (B.ext E3 (fun hx => Nat.lt_irrefl _ (hB _ hx))).ext E4 (fun hx => Nat.lt_irrefl _ (hB _ hx)); have S4 := (S.ext E3 (fun hx => Nat.lt_irrefl _ (hra _ hx))).ext E4 (fun hx => Nat.lt_irrefl _ (hra _ hx)); have b0 := B4.cell 0; have b1 := B4.cell 1; have b2 := B4.cell 2; have b3 := B4.cell 3; have bf := B4.frozen 3; have s0 := S4.cell 0; have s1 := S4.cell 1; have s2 := S4.cell 2; have s3 := S4.cell 3; have g0 := S4.frozen 0; have g1 := S4.frozen 1; have g2 := S4.frozen 2; have g3 := S4.frozen 3; simp only [List.getElem?_cons_zero, List.getElem?_cons_succ] at b0 b1 b2 b3 s0 s1 s2 s3)
        refine bodyPost_ret (v := .agg #[.int .i64 c.op, .string c.name, .int .i64 m, .int .i64 n]) (by simp [results, Tryz.results74, go_sem, b0, b1, b2, b3, bf, s0, s1, s2, s3, g0, g1, g2, g3]) rfl ?_
        refine ⟨(((((E0.trans E3).trans E4).setCell ⟨bb, 3, none⟩ (by simp; omega) _).setCell _ (by simp) _).setCell _ (by simp) _).setCell _ (by simp) _ |>.setCell _ (by simp) _, ?_⟩
        rw [HP.out]
        exact ⟨rfl, ((((P4.set_new _ _ hb2).set_new _ _ hr).set_new _ _ hr).set_new _ _ hr).set_new _ _ hr⟩
end Go.Proofs.YtkpholfdjgdjnaaGreatDoor
