/- Texts of the claim, joined: X9. -/
import Derived.Test.YtkpholfdjgdjnaaGreatDoorM19
namespace Go.Proofs.YtkpholfdjgdjnaaGreatDoor
open Go Go.RowKit Go.Proofs Go.Shelf Go.Sort
set_option maxRecDepth 100000 in
theorem estimate_none (w : World) (N : NV) (hN : N.a7 = none ∧ N.n7 = 0 ∧ N.c7 = 0) (s : ByteArray) :
    Calls Tryz.prog 156 #[.agg N.cells.toArray, .string s] w fun e w' => e = .returned (.tuple #[.int .i64 0, .int .i64 44]) ∧ Ext [] w w' := by
  have HF := Lib.hid (flows_none (w.alloc (.cells N.cells.toArray 102)) N hN s)
  unfold NV.cells zero16 at *
  clear hN
  go_enter Tryz.func156, Tryz.ntmps156
  go_wp2_with (go_at_call 190; refine HF.out.mono ?_; rintro e w1 ⟨rfl, E1⟩)
  go_ret2
  exact ⟨rfl, (((Ext.refl [] w).alloc _).trans E1).alloc _⟩
theorem est_calls (w : World) (N : NV) (hN : N.a7 = none ∧ N.n7 = 0 ∧ N.c7 = 0) (s : ByteArray) :
    Calls Tryz.prog 116 #[.agg (askV N s).toArray] w fun e w' => e = .returned (.agg (cellV none).toArray) ∧ Ext [] w w' := by
  have B0 := Blk.new (w.alloc (.cells (askV N s).toArray 194)) [.bool false, .int .i64 0] 118
  rw [World.size_alloc] at B0
  have HB := Lib.hid B0
  have HF := Lib.hid (estimate_none ((w.alloc (.cells (askV N s).toArray 194)).alloc (.cells [Value.bool false, .int .i64 0].toArray 118)) N hN s)
  clear B0
  unfold askV NV.cells at *
  simp only [List.cons_append, List.nil_append] at *
  clear hN
  go_enter Tryz.func116, Tryz.ntmps116
  go_wp2_with (go_at_call 156; refine HF.out.mono ?_; rintro e w1 ⟨rfl, E1⟩; have B := HB.out.ext E1 (by simp); obtain ⟨c0, c1⟩ := B.two; have f0 := B.frozen 0; have f1 := B.frozen 1; have E2 : Ext [] w w1 := (((Ext.refl [] w).alloc _).alloc _).trans E1)
  exact cell_fin (k := 2) rfl ((B.set 0 (.bool false)).set 1 (.int .i64 0)) rfl rfl ⟨rfl, (E2.setCell ⟨w.heap.size + 1, 0, none⟩ (.inr (by simp)) (.bool false)).setCell ⟨w.heap.size + 1, 1, none⟩ (.inr (by simp)) (.int .i64 0)⟩
end Go.Proofs.YtkpholfdjgdjnaaGreatDoor
