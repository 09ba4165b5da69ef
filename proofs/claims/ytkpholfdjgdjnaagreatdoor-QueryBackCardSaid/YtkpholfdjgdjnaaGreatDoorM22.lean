/- Texts of the claim, joined: XB XC XD. -/
import Derived.Test.YtkpholfdjgdjnaaGreatDoorM18
import Derived.Test.YtkpholfdjgdjnaaGreatDoorM20
import Derived.Test.YtkpholfdjgdjnaaGreatDoorM21
import Derived.Test.YtkpholfdjgdjnaaGreatDoorM12
namespace Go.Proofs.YtkpholfdjgdjnaaGreatDoor
open Go Go.RowKit Go.Proofs Go.Shelf Go.Sort
def tA : ByteArray := ⟨#[110, 111, 100, 101, 44, 101, 115, 116, 105, 109, 97, 116, 101, 40, 32, 109, 32, 41, 32, 119, 104, 101, 114, 101, 32, 105, 110, 112, 117, 116, 40, 109, 41, 62, 48, 32, 97, 110, 100, 32, 110, 111, 100, 101, 33, 61, 51, 32, 115, 111, 114, 116, 32, 50, 32, 100, 111, 119, 110, 32, 108, 105, 109, 105, 116, 32, 53]⟩
def tB : ByteArray := ⟨#[101, 115, 116, 105, 109, 97, 116, 101, 40, 45, 41]⟩
def tC : ByteArray := ⟨#[110, 111, 100, 101, 44, 32, 98, 111, 111, 116, 44, 32, 101, 115, 116, 105, 109, 97, 116, 101, 40, 109, 41, 32, 115, 111, 114, 116, 32, 49, 32, 100, 111, 119, 110]⟩
def tP : ByteArray := ⟨#[110, 111, 100, 101, 44, 32, 101, 115, 116, 105, 109, 97, 116, 101, 40, 109, 41, 32, 119, 104, 101, 114, 101, 32, 105, 110, 112, 117, 116, 40, 109, 41, 32, 62, 32, 48, 32, 97, 110, 100, 32, 110, 111, 100, 101, 32, 33, 61, 32, 51, 32, 115, 111, 114, 116, 32, 50, 32, 100, 111, 119, 110, 32, 108, 105, 109, 105, 116, 32, 53]⟩
def tR : ByteArray := ⟨#[49, 32, 49, 32, 45, 10, 48, 32, 49, 32, 45, 10]⟩
def zA : QZ := ⟨[⟨1, ⟨#[]⟩⟩, ⟨6, ⟨#[109]⟩⟩], [⟨⟨7, ⟨#[109]⟩⟩, 6, 0⟩, ⟨⟨1, ⟨#[]⟩⟩, 4, 3⟩], -2, 5⟩
def zC : QZ := ⟨[⟨1, ⟨#[]⟩⟩, ⟨2, ⟨#[]⟩⟩, ⟨6, ⟨#[109]⟩⟩], [], -1, 0⟩
theorem tA_parse : parseZ tA = .ok zA := by kernel_rfl
theorem tB_parse : parseZ tB = .error (9, 45) := by kernel_rfl
theorem tC_parse : parseZ tC = .ok zC := by kernel_rfl
theorem tA_print : printI zA.i = tP := by kernel_rfl
def n0 : NV := ⟨0, 1, 0, none, 0, 0, 0, none, 0, 0, none, 0, 0, none, 0, 0⟩
def n1 : NV := ⟨1, 1, 0, none, 0, 0, 0, none, 0, 0, none, 0, 0, none, 0, 0⟩
def fA (N : NV) (c : ColI) : Option Int := if c.op = 1 then some N.id else if c.op = 2 then some N.boot else none
theorem run_A : runI fA zC.i [(n0, true), (n1, true)] = [[some 1, some 1, none], [some 0, some 1, none]] := by kernel_rfl
theorem text_A : (⟨(textL [[some 1, some 1, none], [some 0, some 1, none]]).toArray⟩ : ByteArray) = tR := by kernel_rfl
end Go.Proofs.YtkpholfdjgdjnaaGreatDoor
namespace Go.Proofs.YtkpholfdjgdjnaaGreatDoor
open Go Go.RowKit Go.Proofs Go.Shelf Go.Sort
theorem cellA (w : World) (N : NV) (hN : N = n0 ∨ N = n1) (c : ColI) (hc : c ∈ zC.i.cols ++ zC.i.whr.map CondI.col) : CellOk w N (fA N) c := by
  have h7 : N.a7 = none ∧ N.n7 = 0 ∧ N.c7 = 0 := by rcases hN with rfl | rfl <;> exact ⟨rfl, rfl, rfl⟩
  have hc2 : c = ⟨1, ⟨#[]⟩⟩ ∨ c = ⟨2, ⟨#[]⟩⟩ ∨ c = ⟨6, ⟨#[109]⟩⟩ := by
    simpa [zC, QZ.i, ColZ.i] using hc
  intro W _
  rcases hc2 with rfl | rfl | rfl
  · exact cell_calls W N _ 1 (by decide) (some N.id) (fun W' _ => id_calls W' N _)
  · exact cell_calls W N _ 2 (by decide) (some N.boot) (fun W' _ => boot_calls W' N _)
  · exact cell_calls W N _ 6 (by decide) none (fun W' _ => est_calls W' N h7 _)
theorem textA (w : World) (henv : Env w) (vN vU : Value) (aD : Option Addr) (nD cD : Nat) (hN : w.ownsRow 0 102 8 vN 2 (newN 0 ++ newN 1)) (hU : w.ownsRow 0 4 1 vU 2 [.bool true, .bool true]) :
    Calls Tryz.prog 21 #[.agg #[vN, vU, .slice aD nD cD, .int .i64 0, .slice none 0 0, .slice none 0 0, .int .i64 0], .string tC] w fun e w' => e = .returned (.string tR) ∧ Ext [] w w' := by
  have h := ptext_calls w tC zC tC_parse henv [n0, n1] [true, true] vN vU aD nD cD 0 none 0 0 none 0 0 0 fA (Row.of_own hN) (Row.of_own hU) rfl (by decide) (by simp [zC, QZ.i])
    (fun N hN c hc => cellA w N (by simpa using hN) c hc) (fun N hN c n hn => by
      have hN2 : N = n0 ∨ N = n1 := by simpa using hN
      unfold fA at hn
      split at hn
      · simp only [Option.some.injEq] at hn
        subst hn
        rcases hN2 with rfl | rfl <;> decide
      · split at hn
        · simp only [Option.some.injEq] at hn
          subst hn
          rcases hN2 with rfl | rfl <;> decide
        · cases hn)
  have e : (List.zip [n0, n1] [true, true]) = [(n0, true), (n1, true)] := rfl
  rw [e, run_A, text_A] at h
  exact h
end Go.Proofs.YtkpholfdjgdjnaaGreatDoor
namespace Go.Proofs.YtkpholfdjgdjnaaGreatDoor
open Go Go.RowKit Go.Proofs Go.Shelf Go.Sort
theorem parseA (w : World) (henv : Env w) : Calls Tryz.prog 8 #[.string tA] w fun x w' => ∃ AC cC AW cW, x = .returned (.tuple #[.agg #[.slice AC 2 cC, .slice AW 2 cW, .int .i64 (-2), .int .i64 5], .agg #[.int .i64 0, .int .i64 0]]) ∧ QAt w' (.slice AC 2 cC) (.slice AW 2 cW) zA.i ∧ Ext [] w w' := by
  refine (pparse_calls tA w henv).mono ?_
  rintro x w' ⟨E, h⟩
  rw [tA_parse] at h
  obtain ⟨vC, vW, rfl, h1, h2⟩ := h
  obtain ⟨AC, cC, rfl⟩ := ownsRow_shape h1
  obtain ⟨AW, cW, rfl⟩ := ownsRow_shape h2
  refine ⟨AC, cC, AW, cW, rfl, ⟨?_, ?_, ?_⟩, E⟩
  · have := Row.of_own h1
    rw [colsV_i] at this
    exact this
  · have := Row.of_own h2
    rw [condsV_i] at this
    exact this
  · intro c hc
    have hc2 : c = ⟨⟨7, ⟨#[109]⟩⟩, 6, 0⟩ ∨ c = ⟨⟨1, ⟨#[]⟩⟩, 4, 3⟩ := by simpa [zA, QZ.i, CondZ.i, ColZ.i] using hc
    rcases hc2 with rfl | rfl <;> decide
theorem parseB (w : World) (henv : Env w) : Calls Tryz.prog 8 #[.string tB] w fun x w' => x = .returned (.tuple #[.agg #[.slice none 0 0, .slice none 0 0, .int .i64 0, .int .i64 0], .agg #[.int .i64 9, .int .i64 45]]) ∧ Ext [] w w' := by
  refine (pparse_calls tB w henv).mono ?_
  rintro x w' ⟨E, h⟩
  rw [tB_parse] at h
  exact ⟨h, E⟩
set_option maxRecDepth 100000 in
set_option maxHeartbeats 2000000 in
theorem awake_calls (w : World) (henv : Env w) : Calls Tryz.prog 11 #[] w fun e w' => e = .returned (.bool true) ∧ Ext [] w w' := by
  have HE := Lib.hid henv
  clear henv
  have hA := Lib.hid parseA
  have hB := Lib.hid parseB
  unfold tA at hA
  unfold tB at hB
  go_enter Tryz.func11, Tryz.ntmps11
  go_upto_region 2 with (go_at_call 8; refine (hA.out _ HE.out).mono ?_; rintro e w1 ⟨AC, cC, AW, cW, rfl, hq, E1⟩; have HQ := Lib.hid hq; clear hq hA)
  have BQ := (Blk.new w1 [.slice AC 2 cC, .slice AW 2 cW, .int .i64 (-2), .int .i64 5] 25).alloc (.cells #[.int .i64 0, .int .i64 0] 28)
  have BM := Blk.new (w1.alloc (.cells [.slice AC 2 cC, .slice AW 2 cW, .int .i64 (-2), .int .i64 5].toArray 25)) [.int .i64 0, .int .i64 0] 28
  rw [World.size_alloc] at BM
  have E2 : Ext [] w1 ((w1.alloc (.cells [.slice AC 2 cC, .slice AW 2 cW, .int .i64 (-2), .int .i64 5].toArray 25)).alloc (.cells #[.int .i64 0, .int .i64 0] 28)) := ((Ext.refl [] w1).alloc _).alloc _
  generalize (w1.alloc (.cells [.slice AC 2 cC, .slice AW 2 cW, .int .i64 (-2), .int .i64 5].toArray 25)).alloc (.cells #[.int .i64 0, .int .i64 0] 28) = w2 at *
  have Ew2 := E1.trans E2
  go_upto_region 3 with (go_at_call 8; refine (hB.out _ (HE.out.ext Ew2)).mono ?_; rintro e w3 ⟨rfl, E3⟩; clear hB)
  have BF := Blk.new (w3.alloc (.cells [.slice none 0 0, .slice none 0 0, .int .i64 0, .int .i64 0].toArray 25)) [.int .i64 9, .int .i64 45] 28
  rw [World.size_alloc] at BF
  have E4 : Ext [] w3 ((w3.alloc (.cells [.slice none 0 0, .slice none 0 0, .int .i64 0, .int .i64 0].toArray 25)).alloc (.cells #[.int .i64 9, .int .i64 45] 28)) := ((Ext.refl [] w3).alloc _).alloc _
  generalize (w3.alloc (.cells [.slice none 0 0, .slice none 0 0, .int .i64 0, .int .i64 0].toArray 25)).alloc (.cells #[.int .i64 9, .int .i64 45] 28) = w4 at *
  have E24 := E3.trans E4
  have Ew4 := Ew2.trans E24
  go_upto_region 4 with (go_at_call 37; refine (new_calls _).mono ?_; rintro e w5 ⟨vN, vU, vD, rfl, E5, hN, hU, aD, nD, cD, rfl⟩; obtain ⟨aN, kN, rfl⟩ := ownsRow_shape hN; obtain ⟨aU, kU, rfl⟩ := ownsRow_shape hU)
  have BW := Blk.new w5 [.slice aN 2 kN, .slice aU 2 kU, .slice aD nD cD, .int .i64 0, .slice none 0 0, .slice none 0 0, .int .i64 0] 46
  have E6 : Ext [] w5 (w5.alloc (.cells [.slice aN 2 kN, .slice aU 2 kU, .slice aD nD cD, .int .i64 0, .slice none 0 0, .slice none 0 0, .int .i64 0].toArray 46)) := (Ext.refl [] w5).alloc _
  generalize w5.alloc (.cells [.slice aN 2 kN, .slice aU 2 kU, .slice aD nD cD, .int .i64 0, .slice none 0 0, .slice none 0 0, .int .i64 0].toArray 46) = w6 at *
  have E46 := E5.trans E6
  have Ew6 := Ew4.trans E46
  have E26 := E24.trans E46
  have hQ6 := HQ.out.keep (E2.trans E26)
  have BQ6 := BQ.ext E26 (by simp)
  have BM6 := BM.ext E26 (by simp)
  have BF6 := BF.ext E46 (by simp)
  have q0 := BQ6.cell 0
  have q1 := BQ6.cell 1
  have q2 := BQ6.cell 2
  have q3 := BQ6.cell 3
  have m0 := BM6.cell 0
  have m1 := BM6.cell 1
  have f0 := BF6.cell 0
  have f1 := BF6.cell 1
  simp only [List.getElem?_cons_zero, List.getElem?_cons_succ] at q0 q1 q2 q3 m0 m1 f0 f1
  have hP := Lib.hid (pprint_calls zA.i _ _ w6 (HE.out.ext Ew6) hQ6)
  rw [tA_print] at hP
  have hT : Hid (∀ W, Ext [] w6 W → Calls Tryz.prog 21 #[.agg #[.slice aN 2 kN, .slice aU 2 kU, .slice aD nD cD, .int .i64 0, .slice none 0 0, .slice none 0 0, .int .i64 0], .string tC] W fun e w' => e = .returned (.string tR) ∧ Ext [] W w') := fun W e =>
    textA W (HE.out.ext (Ew6.trans e)) _ _ aD nD cD (ownsRow_base (ownsRow_ext hN (E6.trans e) (by simp)) (Nat.zero_le _)) (ownsRow_base (ownsRow_ext hU (E6.trans e) (by simp)) (Nat.zero_le _))
  unfold tC tR at hT
  unfold tP at hP
  have HW : Hid (∀ W, Ext [] w6 W → Blk W w5.heap.size [.slice aN 2 kN, .slice aU 2 kU, .slice aD nD cD, .int .i64 0, .slice none 0 0, .slice none 0 0, .int .i64 0] 46) := fun W e => BW.ext e (by simp)
  clear hN hU hQ6 BQ BM BF BW HQ BQ6 BM6 BF6
  go_wp2_with (first
    | (go_at_call 14; refine hP.out.mono ?_; rintro e w7 ⟨rfl, E7⟩; obtain ⟨g0, g1, g2, g3, g4, g5, g6⟩ := (HW.out _ E7).seven; have p0 := E7.keeps f0 (by simp); have p1 := E7.keeps f1 (by simp))
    | (go_at_call 21; refine (hT.out _ E7).mono ?_; rintro e w8 ⟨rfl, E8⟩))
  go_ret
  exact ⟨rfl, (Ew6.trans E7).trans E8⟩
end Go.Proofs.YtkpholfdjgdjnaaGreatDoor
