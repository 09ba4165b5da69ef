/- Texts of the claim, joined: Y0 Y1. -/
import Derived.Test.YtkpholfdjgdjnaaGreatDoorM12
import Derived.Test.YtkpholfdjgdjnaaGreatDoorM22
import Derived.Test.YtkpholfdjgdjnaaGreatDoorM05
namespace Go.Proofs.YtkpholfdjgdjnaaGreatDoor
open Go Go.RowKit Go.Proofs Go.Shelf
structure RowsAt (w : World) (vC vW : Value) (q : QI) : Prop where
  rowC : Row w vC q.cols.length (colsIV q.cols)
  rowW : Row w vW q.whr.length (condsIV q.whr)
theorem RowsAt.keep {w w' : World} {vC vW : Value} {q : QI} (h : RowsAt w vC vW q) (e : Ext [] w w') : RowsAt w' vC vW q := ⟨h.rowC.keep e, h.rowW.keep e⟩
set_option maxRecDepth 100000 in
theorem cols_same (w : World) (vA vB : Value) (l : List ColI) (hA : Row w vA l.length (colsIV l)) (hB : Row w vB l.length (colsIV l)) :
    Calls Tryz.prog 36 #[vA, vB] w fun e w' => e = .returned (.bool true) ∧ Ext [] w w' := by
  obtain ⟨A, cA, rfl, hn, getA⟩ := Row.at (sz := 2) (fun _ => rfl) (by decide) hA rfl
  obtain ⟨B, cB, rfl, _, getB⟩ := Row.at (sz := 2) (fun _ => rfl) (by decide) hB rfl
  have GA := Lib.hid getA
  have GB := Lib.hid getB
  clear getA getB hA hB
  go_enter Tryz.func36, Tryz.ntmps36
  go_wp2_with fail
  go_loopw [13] (fun i wr => ∃ k : Nat, i = .int .i64 k ∧ k ≤ l.length ∧ Ext [] w wr) (fun i _ => l.length - (intOf i).toNat)
  case atStart => exact ⟨0, rfl, by omega, Ext.refl _ _⟩
  case round =>
    obtain ⟨k, rfl, hk, E⟩ := hrel
    by_cases hlt : k < l.length
    · obtain ⟨c, hc⟩ : ∃ c, l[k]? = some c := ⟨_, List.getElem?_eq_getElem hlt⟩
      obtain ⟨bA, oA, rfl, _, hcA⟩ := GA.out wr E k c hc
      obtain ⟨bB, oB, rfl, _, hcB⟩ := GB.out wr E k c hc
      have d0 := hcA 0 (by decide)
      have d1 := hcA 1 (by decide)
      have e0 := hcB 0 (by decide)
      have e1 := hcB 1 (by decide)
      simp only [colIV, List.getElem?_cons_zero, List.getElem?_cons_succ, Option.getD_some, Nat.add_zero] at d0 d1 e0 e1
      clear hcA hcB hc
      go_upto_region 6 with fail
      go_quiet (fail)
      go_wp2_with fail
      go_roundw
      case rel => exact ⟨k + 1, by go_num, by omega, E.drewN _⟩
      case measure => simp [intOf]; omega
    · go_wp2_with fail
      go_ret
      exact ⟨rfl, E⟩
set_option maxRecDepth 100000 in
set_option maxHeartbeats 1000000 in
theorem same_calls (w : World) (vA vB uA uB : Value) (q : QI) (hA : RowsAt w vA uA q) (hB : RowsAt w vB uB q) :
    Calls Tryz.prog 10 #[qV vA uA q, qV vB uB q] w fun e w' => e = .returned (.bool true) ∧ Ext [] w w' := by
  have HC : Hid (∀ W, Ext [] w W → Calls Tryz.prog 36 #[vA, vB] W fun e w' => e = .returned (.bool true) ∧ Ext [] W w') := fun W e => cols_same W vA vB q.cols (hA.rowC.keep e) (hB.rowC.keep e)
  obtain ⟨AC, cC, rfl, _⟩ := Row.shape hA.rowC
  obtain ⟨BC, dC, rfl, _⟩ := Row.shape hB.rowC
  obtain ⟨A, cA, rfl, hn, getA⟩ := Row.at (sz := 4) (fun _ => rfl) (by decide) hA.rowW rfl
  obtain ⟨B, cB, rfl, _, getB⟩ := Row.at (sz := 4) (fun _ => rfl) (by decide) hB.rowW rfl
  have GA := Lib.hid getA
  have GB := Lib.hid getB
  clear getA getB hA hB
  obtain ⟨cols, whr, srt, lim⟩ := q
  unfold qV
  dsimp only at *
  have BA := (Blk.new w [.slice AC cols.length cC, .slice A whr.length cA, .int .i64 srt, .int .i64 lim] 25).alloc (.cells #[.slice BC cols.length dC, .slice B whr.length cB, .int .i64 srt, .int .i64 lim] 25)
  have BB := Blk.new (w.alloc (.cells [.slice AC cols.length cC, .slice A whr.length cA, .int .i64 srt, .int .i64 lim].toArray 25)) [.slice BC cols.length dC, .slice B whr.length cB, .int .i64 srt, .int .i64 lim] 25
  rw [World.size_alloc] at BB
  have E0 : Ext [] w ((w.alloc (.cells [.slice AC cols.length cC, .slice A whr.length cA, .int .i64 srt, .int .i64 lim].toArray 25)).alloc (.cells #[.slice BC cols.length dC, .slice B whr.length cB, .int .i64 srt, .int .i64 lim] 25)) := ((Ext.refl [] w).alloc _).alloc _
  go_enter Tryz.func10, Tryz.ntmps10
  go_upto_region 1 with fail
  generalize ((w.alloc (.cells [.slice AC cols.length cC, .slice A whr.length cA, .int .i64 srt, .int .i64 lim].toArray 25)).alloc (.cells #[.slice BC cols.length dC, .slice B whr.length cB, .int .i64 srt, .int .i64 lim] 25)) = w1 at *
  have HA := Lib.hid BA
  have HB := Lib.hid BB
  have a0 := BA.cell 0
  have b0 := BB.cell 0
  simp only [List.getElem?_cons_zero] at a0 b0
  clear BA BB
  go_upto_region 3 with (go_at_call 36; refine (HC.out _ E0).mono ?_; rintro e w2 ⟨rfl, E2⟩; have A2 := HA.out.ext E2 (by simp); have B2 := HB.out.ext E2 (by simp); have a1 := A2.cell 1; have a2 := A2.cell 2; have a3 := A2.cell 3; have b1 := B2.cell 1; have b2 := B2.cell 2; have b3 := B2.cell 3; simp only [List.getElem?_cons_zero, List.getElem?_cons_succ] at a1 a2 a3 b1 b2 b3)
  have E3 := E0.trans E2
  clear a0 b0 a2 a3 b1 b2 b3
  go_wp2_with fail
  go_loopw [38] (fun i wr => ∃ k : Nat, i = .int .i64 k ∧ k ≤ whr.length ∧ Ext [] w2 wr) (fun i _ => whr.length - (intOf i).toNat)
  case atStart => exact ⟨0, rfl, by omega, Ext.refl _ _⟩
  case round =>
    obtain ⟨k, rfl, hk, E⟩ := hrel
    have A2 := HA.out.ext (E2.trans E) (by simp)
    have B2 := HB.out.ext (E2.trans E) (by simp)
    have a1 := A2.cell 1
    have b1 := B2.cell 1
    simp only [List.getElem?_cons_zero, List.getElem?_cons_succ] at a1 b1
    by_cases hlt : k < whr.length
    · obtain ⟨c, hc⟩ : ∃ c, whr[k]? = some c := ⟨_, List.getElem?_eq_getElem hlt⟩
      obtain ⟨bA, oA, rfl, _, hcA⟩ := GA.out wr (E3.trans E) k c hc
      obtain ⟨bB, oB, rfl, _, hcB⟩ := GB.out wr (E3.trans E) k c hc
      have d0 := hcA 0 (by decide)
      have d1 := hcA 1 (by decide)
      have d2 := hcA 2 (by decide)
      have d3 := hcA 3 (by decide)
      have e0 := hcB 0 (by decide)
      have e1 := hcB 1 (by decide)
      have e2 := hcB 2 (by decide)
      have e3 := hcB 3 (by decide)
      simp only [condIV, List.getElem?_cons_zero, List.getElem?_cons_succ, Option.getD_some, Nat.add_zero] at d0 d1 d2 d3 e0 e1 e2 e3
      clear hcA hcB hc
      go_upto_region 6 with fail
      go_quiet (fail)
      go_wp2_with fail
      go_roundw
      case rel => exact ⟨k + 1, by go_num, by omega, E.drewN _⟩
      case measure => simp [intOf]; omega
    · go_wp2_with fail
      go_ret
      exact ⟨rfl, E3.trans E⟩
end Go.Proofs.YtkpholfdjgdjnaaGreatDoor
namespace Go.Proofs.YtkpholfdjgdjnaaGreatDoor
open Go Go.RowKit Go.Proofs Go.Shelf
def readZ (s : ByteArray) : QI × Int × Int := match parseZ s with
  | .ok q => (q.i, 0, 0)
  | .error (p, c) => (⟨[], [], 0, 0⟩, p, c)
theorem row_nil (w : World) : Row w (.slice none 0 0) 0 [] := Row.of_own (World.ownsRow_nil w 0 0 1)
theorem read_prog (s : ByteArray) (w : World) (henv : Env w) : Calls Tryz.prog 8 #[.string s] w fun x w' => ∃ vC vW, x = .returned (.tuple #[qV vC vW (readZ s).1, .agg #[.int .i64 (readZ s).2.1, .int .i64 (readZ s).2.2]]) ∧ RowsAt w' vC vW (readZ s).1 ∧ Ext [] w w' := by
  refine (pparse_calls s w henv).mono ?_
  rintro x w' ⟨E, h⟩
  unfold readZ
  rcases hz : parseZ s with ⟨p, c⟩ | q
  · rw [hz] at h
    exact ⟨_, _, h, ⟨row_nil _, row_nil _⟩, E⟩
  · rw [hz] at h
    obtain ⟨vC, vW, rfl, h1, h2⟩ := h
    refine ⟨vC, vW, rfl, ⟨?_, ?_⟩, E⟩
    · have := Row.of_own h1
      rw [colsV_i] at this
      simpa [QZ.i] using this
    · have := Row.of_own h2
      rw [condsV_i] at this
      simpa [QZ.i] using this
theorem read_ref (s : ByteArray) (w : World) : Calls Tryz.prog 9 #[.string s] w fun x w' => ∃ vC vW, x = .returned (.tuple #[qV vC vW (readZ s).1, .int .i64 (readZ s).2.1, .int .i64 (readZ s).2.2]) ∧ RowsAt w' vC vW (readZ s).1 ∧ Ext [] w w' := by
  refine (rparse_calls s w).mono ?_
  rintro x w' ⟨E, h⟩
  unfold readZ
  rcases hz : parseZ s with ⟨p, c⟩ | q
  · rw [hz] at h
    exact ⟨_, _, h, ⟨row_nil _, row_nil _⟩, E⟩
  · rw [hz] at h
    obtain ⟨vC, vW, rfl, h1, h2⟩ := h
    refine ⟨vC, vW, rfl, ⟨?_, ?_⟩, E⟩
    · have := Row.of_own h1
      rw [colsV_i] at this
      simpa [QZ.i] using this
    · have := Row.of_own h2
      rw [condsV_i] at this
      simpa [QZ.i] using this
set_option maxRecDepth 100000 in
set_option maxHeartbeats 2000000 in
theorem queryReads_calls (s : ByteArray) (w : World) (henv : Env w) : Calls Tryz.prog 3 #[.string s] w fun e w' => e = .returned (.bool true) ∧ Ext [] w w' := by
  have HE := Lib.hid henv
  have h1 := Lib.hid (read_prog s w henv)
  have h2 := Lib.hid (fun W => read_ref s W)
  clear henv
  generalize readZ s = z at *
  obtain ⟨q, pl, cd⟩ := z
  dsimp only at h1 h2
  go_enter Tryz.func3, Tryz.ntmps3
  go_upto_region 2 with (go_at_call 8; refine h1.out.mono ?_; rintro e w1 ⟨vC, vW, rfl, hr, E1⟩; obtain ⟨AC, cC, rfl, _⟩ := Row.shape hr.rowC; obtain ⟨AW, cW, rfl, _⟩ := Row.shape hr.rowW; have HA := Lib.hid hr; unfold qV; clear hr h1)
  have BQ := (Blk.new w1 [.slice AC q.cols.length cC, .slice AW q.whr.length cW, .int .i64 q.srt, .int .i64 q.lim] 25).alloc (.cells #[.int .i64 pl, .int .i64 cd] 28)
  have BM := Blk.new (w1.alloc (.cells [.slice AC q.cols.length cC, .slice AW q.whr.length cW, .int .i64 q.srt, .int .i64 q.lim].toArray 25)) [.int .i64 pl, .int .i64 cd] 28
  rw [World.size_alloc] at BM
  have E2 : Ext [] w1 ((w1.alloc (.cells [.slice AC q.cols.length cC, .slice AW q.whr.length cW, .int .i64 q.srt, .int .i64 q.lim].toArray 25)).alloc (.cells #[.int .i64 pl, .int .i64 cd] 28)) := ((Ext.refl [] w1).alloc _).alloc _
  generalize ((w1.alloc (.cells [.slice AC q.cols.length cC, .slice AW q.whr.length cW, .int .i64 q.srt, .int .i64 q.lim].toArray 25)).alloc (.cells #[.int .i64 pl, .int .i64 cd] 28)) = w2 at *
  go_upto_region 3 with (go_at_call 9; refine (h2.out _).mono ?_; rintro e w3 ⟨uC, uW, rfl, hr, E3⟩; obtain ⟨BC, dC, rfl, _⟩ := Row.shape hr.rowC; obtain ⟨BW, dW, rfl, _⟩ := Row.shape hr.rowW; have HB := Lib.hid hr; unfold qV; clear hr h2)
  have BR := Blk.new w3 [.slice BC q.cols.length dC, .slice BW q.whr.length dW, .int .i64 q.srt, .int .i64 q.lim] 25
  have E4 : Ext [] w3 (w3.alloc (.cells [.slice BC q.cols.length dC, .slice BW q.whr.length dW, .int .i64 q.srt, .int .i64 q.lim].toArray 25)) := (Ext.refl [] w3).alloc _
  generalize w3.alloc (.cells [.slice BC q.cols.length dC, .slice BW q.whr.length dW, .int .i64 q.srt, .int .i64 q.lim].toArray 25) = w4 at *
  have E24 := E3.trans E4
  have E14 := E2.trans E24
  have E04 := E1.trans E14
  have BQ4 := BQ.ext E24 (by simp)
  have BM4 := Lib.hid (BM.ext E24 (by simp))
  have a0 := BQ4.cell 0
  have a1 := BQ4.cell 1
  have a2 := BQ4.cell 2
  have a3 := BQ4.cell 3
  have b0 := BR.cell 0
  have b1 := BR.cell 1
  have b2 := BR.cell 2
  have b3 := BR.cell 3
  simp only [List.getElem?_cons_zero, List.getElem?_cons_succ] at a0 a1 a2 a3 b0 b1 b2 b3
  have hS := Lib.hid (same_calls w4 _ _ _ _ q (HA.out.keep E14) (HB.out.keep E4))
  unfold qV at hS
  clear HA HB BQ BM BR BQ4
  go_wp2_with (first
    | (go_at_call 10; refine hS.out.mono ?_; rintro e w5 ⟨rfl, E5⟩; have BM5 := BM4.out.ext E5 (by simp); obtain ⟨m0, m1⟩ := BM5.two; have hae := Lib.hid (awake_calls w5 (HE.out.ext (E04.trans E5))))
    | (go_at_call 11; refine hae.out.mono ?_; rintro e w6 ⟨rfl, E6⟩))
  go_ret
  exact ⟨rfl, (E04.trans E5).trans E6⟩
end Go.Proofs.YtkpholfdjgdjnaaGreatDoor
