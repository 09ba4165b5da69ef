/- Texts of the claim, joined: X3 X4. -/
import Derived.Test.YtkpholfdjgdjnaaGreatDoorM15
namespace Go.Proofs.YtkpholfdjgdjnaaGreatDoor
open Go Go.RowKit Go.Proofs Go.Shelf Go.Sort
structure NV where
  id : Int
  boot : Int
  x2 : Int
  a3 : Option Addr
  n3 : Nat
  c3 : Nat
  x4 : Int
  a5 : Option Addr
  n5 : Nat
  c5 : Nat
  a6 : Option Addr
  n6 : Nat
  c6 : Nat
  a7 : Option Addr
  n7 : Nat
  c7 : Nat
def NV.cells (N : NV) : List Value := [.int .i64 N.id, .int .i64 N.boot, .int .i64 N.x2, .slice N.a3 N.n3 N.c3, .int .i64 N.x4, .slice N.a5 N.n5 N.c5, .slice N.a6 N.n6 N.c6, .slice N.a7 N.n7 N.c7]
def CellOk (w : World) (N : NV) (f : ColI → Option Int) (c : ColI) : Prop :=
  ∀ W, Ext [] w W → Calls Tryz.prog 56 #[.agg N.cells.toArray, .agg #[.int .i64 c.op, .string c.name]] W fun e w' => e = .returned (.agg (cellV (f c)).toArray) ∧ Ext [] W w'
theorem CellOk.ext {w w' : World} {N : NV} {f : ColI → Option Int} {c : ColI} (h : CellOk w N f c) (e : Ext [] w w') : CellOk w' N f c := fun W hW => h W (e.trans hW)
def meetsI (x : Option Int) (cmp num : Int) : Bool :=
  match x with
  | none => false
  | some n => if cmp = 1 then decide (n < num) else if cmp = 2 then decide (n ≤ num) else if cmp = 3 then decide (n = num) else if cmp = 4 then !decide (n = num) else if cmp = 5 then decide (num ≤ n) else decide (num < n)
set_option maxHeartbeats 1000000 in
theorem meets_calls (w : World) (N : NV) (f : ColI → Option Int) (c : CondI) (h : CellOk w N f c.col) :
    Calls Tryz.prog 55 #[.agg N.cells.toArray, .agg #[.int .i64 c.col.op, .string c.col.name, .int .i64 c.cmp, .int .i64 c.num]] w fun e w' => e = .returned (.bool (meetsI (f c.col) c.cmp c.num)) ∧ Ext [] w w' := by
  have HC := Lib.hid h
  clear h
  unfold CellOk at HC
  generalize hx : f c.col = x at *
  clear hx
  unfold NV.cells at *
  unfold cellV at HC
  obtain ⟨⟨op, name⟩, cmp, num⟩ := c
  dsimp only at *
  rcases x with _ | n
  · simp only [Option.isSome_none, Option.getD_none] at HC
    go_enter Tryz.func55, Tryz.ntmps55
    go_wp2_with (go_at_call 56; refine (HC.out _ (((Ext.refl [] w).alloc _).alloc _)).mono ?_; rintro e w' ⟨rfl, E⟩)
    go_ret
    exact ⟨rfl, (((Ext.refl [] w).alloc _).alloc _).trans E |>.alloc _⟩
  · simp only [Option.isSome_some, Option.getD_some] at HC
    have B1 := Blk.new (w.alloc (.cells [Value.int .i64 N.id, .int .i64 N.boot, .int .i64 N.x2, .slice N.a3 N.n3 N.c3, .int .i64 N.x4, .slice N.a5 N.n5 N.c5, .slice N.a6 N.n6 N.c6, .slice N.a7 N.n7 N.c7].toArray 102)) [.int .i64 op, .string name, .int .i64 cmp, .int .i64 num] 59
    rw [World.size_alloc] at B1
    have HB := Lib.hid B1
    clear B1
    have m : cmp = 1 ∨ cmp = 2 ∨ cmp = 3 ∨ cmp = 4 ∨ cmp = 5 ∨ (cmp ≠ 1 ∧ cmp ≠ 2 ∧ cmp ≠ 3 ∧ cmp ≠ 4 ∧ cmp ≠ 5) := by omega
    rcases m with rfl | rfl | rfl | rfl | rfl | ⟨m1, m2, m3, m4, m5⟩
    all_goals
      go_enter Tryz.func55, Tryz.ntmps55
      go_wp2_with (go_at_call 56; refine (HC.out _ (((Ext.refl [] w).alloc _).alloc _)).mono ?_; rintro e w' ⟨rfl, E⟩; have B := HB.out.ext E (by simp); have nl := B.lt; have c1 := B.cell 1; have c2 := B.cell 2; have c3 := B.cell 3; simp only [List.getElem?_cons_zero, List.getElem?_cons_succ] at c1 c2 c3)
      go_ret
      refine ⟨?_, (((Ext.refl [] w).alloc _).alloc _).trans E |>.alloc _⟩
      refine ret_bool ?_
    · rfl
    · rfl
    · simp [meetsI]; rfl
    · simp [meetsI]; rfl
    · rfl
    · simp [meetsI, m1, m2, m3, m4, m5]
abbrev NAt (w : World) (b : Nat) (N : NV) : Prop := Blk w b N.cells 102
theorem fails_calls (w : World) (b : Nat) (N : NV) (f : ColI → Option Int) (c : CondI) (h : CellOk w N f c.col) (hN : NAt w b N) :
    Calls Tryz.prog 54 #[.agg #[.int .i64 c.col.op, .string c.col.name, .int .i64 c.cmp, .int .i64 c.num], .pointer (some ⟨b, 0, none⟩)] w fun e w' => e = .returned (.bool (!meetsI (f c.col) c.cmp c.num)) ∧ Ext [] w w' := by
  have HM : Hid (Calls Tryz.prog 55 #[.agg N.cells.toArray, .agg #[.int .i64 c.col.op, .string c.col.name, .int .i64 c.cmp, .int .i64 c.num]] (w.alloc (.cells #[.int .i64 c.col.op, .string c.col.name, .int .i64 c.cmp, .int .i64 c.num] 59)) fun e w' => e = .returned (.bool (meetsI (f c.col) c.cmp c.num)) ∧ Ext [] (w.alloc (.cells #[.int .i64 c.col.op, .string c.col.name, .int .i64 c.cmp, .int .i64 c.num] 59)) w') := meets_calls _ N f c (h.ext ((Ext.refl [] w).alloc _))
  unfold NV.cells at HM
  generalize meetsI (f c.col) c.cmp c.num = r at *
  have n0 := hN.lt
  have c0 : w.cell? ⟨b, 0, none⟩ = some (.int .i64 N.id) := hN.cell 0
  have c1 : w.cell? ⟨b, 1, none⟩ = some (.int .i64 N.boot) := hN.cell 1
  have c2 : w.cell? ⟨b, 2, none⟩ = some (.int .i64 N.x2) := hN.cell 2
  have c3 : w.cell? ⟨b, 3, none⟩ = some (.slice N.a3 N.n3 N.c3) := hN.cell 3
  have c4 : w.cell? ⟨b, 4, none⟩ = some (.int .i64 N.x4) := hN.cell 4
  have c5 : w.cell? ⟨b, 5, none⟩ = some (.slice N.a5 N.n5 N.c5) := hN.cell 5
  have c6 : w.cell? ⟨b, 6, none⟩ = some (.slice N.a6 N.n6 N.c6) := hN.cell 6
  have c7 : w.cell? ⟨b, 7, none⟩ = some (.slice N.a7 N.n7 N.c7) := hN.cell 7
  clear h hN
  go_enter Tryz.func54, Tryz.ntmps54
  go_wp2_with (go_at_call 55; refine HM.out.mono ?_; rintro e w' ⟨rfl, E⟩)
  go_ret
  exact ⟨rfl, ((Ext.refl [] w).alloc _).trans E⟩
set_option maxRecDepth 100000 in
set_option maxHeartbeats 1000000 in
theorem index_fails (w : World) (b : Nat) (N : NV) (f : ColI → Option Int) (vW : Value) (whr : List CondI) (hW : Row w vW whr.length (condsIV whr)) (h : ∀ c ∈ whr, CellOk w N f c.col) (hN : NAt w b N) :
    Calls Tryz.prog 110 #[vW, .func (.func 54) #[] #[.pointer (some ⟨b, 0, none⟩)]] w fun e w' => (∃ i : Int, e = .returned (.int .i64 i) ∧ decide (0 ≤ i) = !(whr.all fun c => meetsI (f c.col) c.cmp c.num)) ∧ Ext [] w w' := by
  obtain ⟨AW, capW, rfl, hnW, getW⟩ := Row.at (sz := 4) (fun _ => rfl) (by decide) hW rfl
  have GW := Lib.hid getW
  have H := Lib.hid h
  have HN := Lib.hid hN
  clear getW h hN hW
  go_enter Tryz.func110, Tryz.ntmps110
  go_wp2_with fail
  go_loopw [8] (fun i wr => ∃ k : Nat, i = .int .i64 k ∧ k ≤ whr.length ∧ Ext [] w wr ∧ Hid (∀ j c, j < k → whr[j]? = some c → meetsI (f c.col) c.cmp c.num = true)) (fun i _ => whr.length - (intOf i).toNat)
  case atStart => exact ⟨0, rfl, by omega, Ext.refl _ _, fun j c hj => by omega⟩
  case round =>
    obtain ⟨k, rfl, hk, E, hall⟩ := hrel
    by_cases hlt : k < whr.length
    · obtain ⟨c, hc⟩ : ∃ c, whr[k]? = some c := ⟨_, List.getElem?_eq_getElem hlt⟩
      obtain ⟨b2, o, rfl, hbl, hcell⟩ := GW.out _ E k c hc
      have d0 := hcell 0 (by decide)
      have d1 := hcell 1 (by decide)
      have d2 := hcell 2 (by decide)
      have d3 := hcell 3 (by decide)
      have Hc := Lib.hid hc
      clear hc hcell
      simp only [condIV, List.getElem?_cons_zero, List.getElem?_cons_succ, Option.getD_some, Nat.add_zero] at d0 d1 d2 d3
      have hcon := fails_calls wr b N f c ((H.out c (List.mem_of_getElem? Hc.out)).ext E) (HN.out.ext E (by simp))
      have HC := Lib.hid hcon
      clear hcon
      rcases hm : meetsI (f c.col) c.cmp c.num with _ | _
      · have Hm := Lib.hid hm
        rw [hm] at HC
        clear hm
        go_wp2_with (go_at_call 54; refine HC.out.mono ?_; rintro e w' ⟨rfl, E2⟩)
        go_ret
        refine ⟨⟨k, rfl, ?_⟩, E.trans E2⟩
        rw [all_no Hc.out Hm.out]
        simp
      · have Hm := Lib.hid hm
        rw [hm] at HC
        clear hm
        go_wp2_with (go_at_call 54; refine HC.out.mono ?_; rintro e w' ⟨rfl, E2⟩)
        go_roundw
        case rel => exact ⟨k + 1, by go_num, by omega, E.trans E2, Lib.hid (all_succ (l := whr) (f := fun (c : CondI) => meetsI (f c.col) c.cmp c.num) hall.out Hc.out Hm.out)⟩
        case measure => simp [intOf]; omega
    · have HA := Lib.hid (all_yes (f := fun c => meetsI (f c.col) c.cmp c.num) (fun j c hj hc => hall.out j c (by omega) hc))
      clear hall
      go_wp2_with fail
      go_ret
      refine ⟨⟨-1, rfl, ?_⟩, E⟩
      rw [HA.out]
      rfl
theorem contains_fails (w : World) (b : Nat) (N : NV) (f : ColI → Option Int) (vW : Value) (whr : List CondI) (hW : Row w vW whr.length (condsIV whr)) (h : ∀ c ∈ whr, CellOk w N f c.col) (hN : NAt w b N) :
    Calls Tryz.prog 53 #[vW, .func (.func 54) #[] #[.pointer (some ⟨b, 0, none⟩)]] w fun e w' => e = .returned (.bool (!(whr.all fun c => meetsI (f c.col) c.cmp c.num))) ∧ Ext [] w w' := by
  have HI := Lib.hid (index_fails w b N f vW whr hW h hN)
  clear hW h hN
  generalize (!(whr.all fun c => meetsI (f c.col) c.cmp c.num)) = r at *
  go_enter Tryz.func53, Tryz.ntmps53
  go_wp2_with (go_at_call 110; refine HI.out.mono ?_; rintro e w' ⟨⟨i, rfl, hi⟩, E⟩)
  go_ret
  exact ⟨rfl, E⟩
end Go.Proofs.YtkpholfdjgdjnaaGreatDoor
namespace Go.Proofs.YtkpholfdjgdjnaaGreatDoor
open Go Go.RowKit Go.Proofs Go.Shelf Go.Sort
theorem Tryz.info60 : (Tryz.prog.info? 60).map (fun i => (i.zero, i.size, i.bytes)) = some (some (.slice none 0 0), 1, 24) := by kernel_rfl
theorem Tryz.info118 : (Tryz.prog.info? 118).map (fun i => (i.zero, i.size, i.bytes)) = some (some (.agg #[.bool false, .int .i64 0]), 2, 16) := by kernel_rfl
def TableAt (W : World) (base : Nat) (v : Value) (T : List (List (Option Int))) : Prop :=
  ∃ d : List (Value × List (Option Int)), d.map Prod.snd = T ∧ W.ownsRow base 60 1 v d.length (d.map Prod.fst) ∧ ∀ x ∈ d, W.ownsRow base 118 2 x.1 x.2.length (x.2.flatMap cellV)
theorem TableAt.nil (W : World) (base : Nat) : TableAt W base (.slice none 0 0) [] := ⟨[], rfl, World.ownsRow_nil _ _ _ _, by simp⟩
theorem TableAt.ext {S : List Nat} {W W' : World} {base : Nat} {v : Value} {T : List (List (Option Int))} (h : TableAt W base v T) (e : Ext S W W') (hS : ∀ b ∈ S, b < base) : TableAt W' base v T := by
  obtain ⟨d, h1, h2, h3⟩ := h
  exact ⟨d, h1, ownsRow_ext h2 e hS, fun x hx => ownsRow_ext (h3 x hx) e hS⟩
theorem TableAt.base {W : World} {base b' : Nat} {v : Value} {T : List (List (Option Int))} (h : TableAt W base v T) (hb : b' ≤ base) : TableAt W b' v T := by
  obtain ⟨d, h1, h2, h3⟩ := h
  exact ⟨d, h1, ownsRow_base h2 hb, fun x hx => ownsRow_base (h3 x hx) hb⟩
theorem TableAt.shape {W : World} {base : Nat} {v : Value} {T : List (List (Option Int))} (h : TableAt W base v T) : ∃ A cap, v = .slice A T.length cap := by
  obtain ⟨d, h1, h2, h3⟩ := h
  obtain ⟨A, cap, hv⟩ := ownsRow_shape h2
  exact ⟨A, cap, by rw [hv, ← h1, List.length_map]⟩
theorem TableAt.row {W : World} {base : Nat} {v : Value} {T : List (List (Option Int))} (h : TableAt W base v T) : ∃ xs, W.ownsRow base 60 1 v T.length xs ∧
    ∀ (W' : World) (v' lv : Value) (l : List (Option Int)), W.ownsRow base 118 2 lv l.length (l.flatMap cellV) → W'.ownsRow base 60 1 v' (T.length + 1) (xs ++ [lv]) → W.grownBy W' v.ownBlock → TableAt W' base v' (T ++ [l]) := by
  obtain ⟨d, h1, h2, h3⟩ := h
  have hl : d.length = T.length := by rw [← h1, List.length_map]
  rw [hl] at h2
  refine ⟨_, h2, fun W' v' lv l hlv hown hg => ⟨d ++ [(lv, l)], by rw [List.map_append, h1]; rfl, ?_, ?_⟩⟩
  · rw [List.length_append, hl, List.map_append]
    exact hown
  · intro x hx
    rw [List.mem_append] at hx
    rcases hx with hx | hx
    · exact (h3 x hx).kept hg (owns_far (h3 x hx) h2 (by decide))
    · rw [List.mem_singleton] at hx
      subst hx
      exact hlv.kept hg (owns_far hlv h2 (by decide))
theorem TableAt.lines {W : World} {base n : Nat} : ∀ (d : List (Value × List (Option Int))), (∀ x ∈ d, W.ownsRow base 118 2 x.1 x.2.length (x.2.flatMap cellV)) → (∀ x ∈ d, x.2.length = n) → ∃ e : List (Ln W base n), e.map Ln.v = d.map Prod.fst ∧ e.map Ln.l = d.map Prod.snd
  | [], _, _ => ⟨[], rfl, rfl⟩
  | x :: d, h, hn => by
    obtain ⟨e, h1, h2⟩ := TableAt.lines d (fun y hy => h y (List.mem_cons_of_mem _ hy)) (fun y hy => hn y (List.mem_cons_of_mem _ hy))
    have hx := h x (List.mem_cons_self ..)
    have hl := hn x (List.mem_cons_self ..)
    rw [hl] at hx
    exact ⟨⟨x.1, x.2, hl, hx⟩ :: e, by simp [h1], by simp [h2]⟩
def sortL (at_ : Nat) (sign : Int) (T : List (List (Option Int))) : List (List (Option Int)) := (Sort.insertionSort (ltOf (cfL at_ sign)) T.toArray 0 T.length).toList
theorem sort_table (W : World) (base n at_ b1 b2 : Nat) (sign : Int) (v : Value) (T : List (List (Option Int))) (h : TableAt W base v T) (hT : ∀ l ∈ T, l.length = n) (hs : sign = 1 ∨ sign = -1) (hat : at_ < n) (h16 : T.length ≤ 16)
    (h1 : Blk W b1 [.int .i64 at_] 3) (h2 : Blk W b2 [.int .i64 sign] 3) (hnil : T = [] → v = .slice none 0 0) (hbase : base ≤ W.heap.size) :
    Calls Tryz.prog 57 #[v, .func (.func 58) #[] #[.pointer (some ⟨b1, 0, none⟩), .pointer (some ⟨b2, 0, none⟩)]] W
      fun e w' => e = .returned (.tuple #[]) ∧ TableAt w' base v (sortL at_ sign T) ∧ ∃ x, base ≤ x ∧ Ext [x] W w' := by
  obtain ⟨d, hd, ho, hl⟩ := h
  rcases d with _ | ⟨x0, d0⟩
  · obtain rfl : T = [] := by rw [← hd]; rfl
    rw [hnil rfl]
    refine (sort_nil W _).mono ?_
    rintro r w' ⟨rfl, rfl⟩
    have hs0 : sortL at_ sign [] = [] := by simp [sortL, Sort.insertionSort, insOuter]
    rw [hs0]
    exact ⟨rfl, TableAt.nil _ _, _, hbase, Ext.refl _ _⟩
  · obtain ⟨e, e1, e2⟩ := TableAt.lines (n := n) _ hl (fun x hx => hT _ (by rw [← hd]; exact List.mem_map_of_mem hx))
    rcases e with _ | ⟨y0, e0⟩
    · simp at e1
    have inst : Inhabited (Ln W base n) := ⟨y0⟩
    generalize hD : y0 :: e0 = e at *
    have hlen : e.length = (x0 :: d0).length := by rw [← List.length_map (f := Ln.v), e1, List.length_map]
    have hlT : T.length = e.length := by rw [← hd, List.length_map, hlen]
    obtain ⟨g, cap, hv, hg, _⟩ := ho.form (by simp)
    rw [← hlen, ← e1] at ho
    rw [hv] at ho ⊢
    rw [← hlen] at ho ⊢
    have hb1 : b1 ≠ g := by
      rintro rfl
      rcases ho.2 with ⟨h, _⟩ | ⟨g', cap', cur, h, _, hgg, _⟩
      · cases h
      · simp only [Value.slice.injEq, Option.some.injEq, Addr.mk.injEq, and_true, true_and] at h
        obtain ⟨rfl, _⟩ := h
        unfold Blk at h1
        rw [h1] at hgg
        simp at hgg
    have hb2 : b2 ≠ g := by
      rintro rfl
      rcases ho.2 with ⟨h, _⟩ | ⟨g', cap', cur, h, _, hgg, _⟩
      · cases h
      · simp only [Value.slice.injEq, Option.some.injEq, Addr.mk.injEq, and_true, true_and] at h
        obtain ⟨rfl, _⟩ := h
        unfold Blk at h2
        rw [h2] at hgg
        simp at hgg
    have hcon := sort_calls W base n g cap at_ b1 b2 sign e.toArray hs hat (by simp; omega) (by simpa using ho) (h1.cell 0) (h2.cell 0) hb1 hb2
    simp only [List.size_toArray] at hcon
    refine hcon.mono ?_
    rintro r w' ⟨rfl, E, O⟩
    refine ⟨rfl, ⟨((sorted W base n at_ sign e.toArray).toList).map (fun x => (x.v, x.l)), ?_, ?_, ?_⟩, g, hg, E⟩
    · rw [List.map_map]
      show List.map Ln.l _ = _
      have hm := insertionSort_map (ltOf (fun x y : Ln W base n => cfL at_ sign x.l y.l)) Ln.l (ltOf (cfL at_ sign)) (fun _ _ => rfl) e.toArray 0 e.toArray.size (Nat.le_refl _)
      unfold sortL
      rw [← Array.toList_map, hm]
      simp only [List.size_toArray, List.map_toArray, e2, hd, hlT]
    · rw [List.map_map, List.length_map]
      have hsz : (sorted W base n at_ sign e.toArray).toList.length = e.length := by
        rw [Array.length_toList, insertionSort_size]
        simp
      rw [hsz]
      exact O
    · intro x hx
      rw [List.mem_map] at hx
      obtain ⟨y, _, rfl⟩ := hx
      have hy : W.ownsRow base 118 2 y.v y.l.length (y.l.flatMap cellV) := by
        have := y.own
        have hl := y.len
        generalize y.v = yv, y.l = yl at *
        rw [hl]
        exact this
      refine ownsRow_ext' hy E (fun b hb => ?_)
      rcases owns_far hy ho (by decide) with h3 | h3
      · rw [h3] at hb
        cases hb
      · rw [hb] at h3
        intro h4
        rw [List.mem_singleton] at h4
        subst h4
        exact h3 rfl
end Go.Proofs.YtkpholfdjgdjnaaGreatDoor
