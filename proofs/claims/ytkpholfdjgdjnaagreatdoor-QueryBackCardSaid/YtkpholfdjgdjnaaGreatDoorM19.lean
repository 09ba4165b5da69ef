/- Texts of the claim, joined: X8. -/
import Derived.Test.YtkpholfdjgdjnaaGreatDoorM16
namespace Go.Proofs.YtkpholfdjgdjnaaGreatDoor
open Go Go.RowKit Go.Proofs Go.Shelf Go.Sort
def askV (N : NV) (s : ByteArray) : List Value := N.cells ++ [.string s]
theorem id_calls (w : World) (N : NV) (s : ByteArray) :
    Calls Tryz.prog 111 #[.agg (askV N s).toArray] w fun e w' => e = .returned (.agg (cellV (some N.id)).toArray) ∧ Ext [] w w' := by
  unfold askV NV.cells
  simp only [List.cons_append, List.nil_append]
  have B0 := Blk.new (w.alloc (.cells [Value.int .i64 N.id, .int .i64 N.boot, .int .i64 N.x2, .slice N.a3 N.n3 N.c3, .int .i64 N.x4, .slice N.a5 N.n5 N.c5, .slice N.a6 N.n6 N.c6, .slice N.a7 N.n7 N.c7, .string s].toArray 194)) [.bool false, .int .i64 0] 118
  rw [World.size_alloc] at B0
  have HB := Lib.hid B0
  clear B0
  go_enter Tryz.func111, Tryz.ntmps111
  go_wp2_with (go_at_call 155; refine (some_calls _ N.id).mono ?_; rintro e w1 ⟨rfl, E1⟩; unfold cellV; simp only [Option.isSome_some, Option.getD_some]; have B := HB.out.ext E1 (by simp); obtain ⟨c0, c1⟩ := B.two; have f0 := B.frozen 0; have f1 := B.frozen 1; have E2 : Ext [] w w1 := (((Ext.refl [] w).alloc _).alloc _).trans E1)
  exact cell_fin (k := 2) rfl ((B.set 0 (.bool true)).set 1 (.int .i64 N.id)) rfl rfl ⟨rfl, (E2.setCell ⟨w.heap.size + 1, 0, none⟩ (.inr (by simp)) (.bool true)).setCell ⟨w.heap.size + 1, 1, none⟩ (.inr (by simp)) (.int .i64 N.id)⟩
theorem boot_calls (w : World) (N : NV) (s : ByteArray) :
    Calls Tryz.prog 112 #[.agg (askV N s).toArray] w fun e w' => e = .returned (.agg (cellV (some N.boot)).toArray) ∧ Ext [] w w' := by
  unfold askV NV.cells
  simp only [List.cons_append, List.nil_append]
  have B0 := Blk.new (w.alloc (.cells [Value.int .i64 N.id, .int .i64 N.boot, .int .i64 N.x2, .slice N.a3 N.n3 N.c3, .int .i64 N.x4, .slice N.a5 N.n5 N.c5, .slice N.a6 N.n6 N.c6, .slice N.a7 N.n7 N.c7, .string s].toArray 194)) [.bool false, .int .i64 0] 118
  rw [World.size_alloc] at B0
  have HB := Lib.hid B0
  clear B0
  go_enter Tryz.func112, Tryz.ntmps112
  go_wp2_with (go_at_call 155; refine (some_calls _ N.boot).mono ?_; rintro e w1 ⟨rfl, E1⟩; unfold cellV; simp only [Option.isSome_some, Option.getD_some]; have B := HB.out.ext E1 (by simp); obtain ⟨c0, c1⟩ := B.two; have f0 := B.frozen 0; have f1 := B.frozen 1; have E2 : Ext [] w w1 := (((Ext.refl [] w).alloc _).alloc _).trans E1)
  exact cell_fin (k := 2) rfl ((B.set 0 (.bool true)).set 1 (.int .i64 N.boot)) rfl rfl ⟨rfl, (E2.setCell ⟨w.heap.size + 1, 0, none⟩ (.inr (by simp)) (.bool true)).setCell ⟨w.heap.size + 1, 1, none⟩ (.inr (by simp)) (.int .i64 N.boot)⟩
theorem place_none (w : World) (s : ByteArray) :
    Calls Tryz.prog 192 #[.slice none 0 0, .string s] w fun e w' => e = .returned (.tuple #[.int .i64 0, .bool false]) ∧ w' = w := by
  go_enter Tryz.func192, Tryz.ntmps192
  go_wp2_with fail
  refine wp_loop_rounds 1 ?_
  rw [rounds_succ]
  go_wp2_with fail
  go_ret2
  exact ⟨rfl, rfl⟩
def zero16 : List Value := [.string ⟨#[]⟩, .int .i64 0, .int .i64 0, .bool false, .int .i64 0, .int .i64 0, .bool false, .int .i64 0, .bool false, .int .i64 0, .int .i64 0, .int .i64 0, .bool false, .int .i64 0, .int .i64 0, .int .i64 0]
theorem find_none (w : World) (s : ByteArray) :
    Calls Tryz.prog 157 #[.slice none 0 0, .string s] w fun e w' => e = .returned (.tuple #[.agg zero16.toArray, .bool false]) ∧ Ext [] w w' := by
  go_enter Tryz.func157, Tryz.ntmps157
  go_wp2_with (go_at_call 192; refine (place_none _ _).mono ?_; rintro e w1 ⟨rfl, rfl⟩)
  refine bodyPost_ret (v := .tuple #[.agg zero16.toArray, .bool false]) (by simp [results, Tryz.results157, go_sem, zero16]) rfl ⟨rfl, (Ext.refl [] _).alloc _⟩
theorem flows_fin {R : Ending → World → Prop} {a : Act} {w3 : World} {h : Nat} (B : Blk w3 h zero16 180)
    (h4 : a.tmps.getD 4 undef = .pointer (some ⟨h, 0, none⟩)) (h5 : a.tmps.getD 5 undef = .int .i64 44) (hd : a.defers = []) (hR : R (.returned (.tuple #[.agg zero16.toArray, .int .i64 44])) w3) :
    bodyPost Tryz.prog Tryz.f190 R .ret a w3 := by
  have c0 : w3.cell? ⟨h, 0, none⟩ = some (.string ⟨#[]⟩) := B.cell 0
  have c1 : w3.cell? ⟨h, 1, none⟩ = some (.int .i64 0) := B.cell 1
  have c2 : w3.cell? ⟨h, 2, none⟩ = some (.int .i64 0) := B.cell 2
  have c3 : w3.cell? ⟨h, 3, none⟩ = some (.bool false) := B.cell 3
  have c4 : w3.cell? ⟨h, 4, none⟩ = some (.int .i64 0) := B.cell 4
  have c5 : w3.cell? ⟨h, 5, none⟩ = some (.int .i64 0) := B.cell 5
  have c6 : w3.cell? ⟨h, 6, none⟩ = some (.bool false) := B.cell 6
  have c7 : w3.cell? ⟨h, 7, none⟩ = some (.int .i64 0) := B.cell 7
  have c8 : w3.cell? ⟨h, 8, none⟩ = some (.bool false) := B.cell 8
  have c9 : w3.cell? ⟨h, 9, none⟩ = some (.int .i64 0) := B.cell 9
  have c10 : w3.cell? ⟨h, 10, none⟩ = some (.int .i64 0) := B.cell 10
  have c11 : w3.cell? ⟨h, 11, none⟩ = some (.int .i64 0) := B.cell 11
  have c12 : w3.cell? ⟨h, 12, none⟩ = some (.bool false) := B.cell 12
  have c13 : w3.cell? ⟨h, 13, none⟩ = some (.int .i64 0) := B.cell 13
  have c14 : w3.cell? ⟨h, 14, none⟩ = some (.int .i64 0) := B.cell 14
  have c15 : w3.cell? ⟨h, 15, none⟩ = some (.int .i64 0) := B.cell 15
  refine bodyPost_ret (v := .tuple #[.agg zero16.toArray, .int .i64 44]) ?_ hd hR
  rw [Array.getD_eq_getD_getElem?] at h4 h5
  simp [results, Tryz.results190, go_sem, zero16, h4, h5, c0, c1, c2, c3, c4, c5, c6, c7, c8, c9, c10, c11, c12, c13, c14, c15]
set_option maxRecDepth 100000 in
set_option maxHeartbeats 2000000 in
theorem flows_none (w : World) (N : NV) (hN : N.a7 = none ∧ N.n7 = 0 ∧ N.c7 = 0) (s : ByteArray) :
    Calls Tryz.prog 190 #[.agg N.cells.toArray, .string s] w fun e w' => e = .returned (.tuple #[.agg zero16.toArray, .int .i64 44]) ∧ Ext [] w w' := by
  obtain ⟨h1, h2, h3⟩ := hN
  unfold NV.cells
  rw [h1, h2, h3]
  clear h1 h2 h3
  have B0 := Blk.new (w.alloc (.cells [Value.int .i64 N.id, .int .i64 N.boot, .int .i64 N.x2, .slice N.a3 N.n3 N.c3, .int .i64 N.x4, .slice N.a5 N.n5 N.c5, .slice N.a6 N.n6 N.c6, .slice none 0 0].toArray 102)) zero16 180
  rw [World.size_alloc] at B0
  have HB := Lib.hid B0
  clear B0
  go_enter Tryz.func190, Tryz.ntmps190
  go_wp2_with (go_at_call 157; refine (find_none _ _).mono ?_; rintro e w1 ⟨rfl, E1⟩; unfold zero16; have B := HB.out.ext E1 (by simp); have c0 : w1.cell? ⟨w.heap.size + 1, 0, none⟩ = some (.string ⟨#[]⟩) := B.cell 0; have f0 := B.frozen 0; have c1 : w1.cell? ⟨w.heap.size + 1, 1, none⟩ = some (.int .i64 0) := B.cell 1; have f1 := B.frozen 1; have c2 : w1.cell? ⟨w.heap.size + 1, 2, none⟩ = some (.int .i64 0) := B.cell 2; have f2 := B.frozen 2; have c3 : w1.cell? ⟨w.heap.size + 1, 3, none⟩ = some (.bool false) := B.cell 3; have f3 := B.frozen 3; have c4 : w1.cell? ⟨w.heap.size + 1, 4, none⟩ = some (.int .i64 0) := B.cell 4; have f4 := B.frozen 4; have c5 : w1.cell? ⟨w.heap.size + 1, 5, none⟩ = some (.int .i64 0) := B.cell 5; have f5 := B.frozen 5; have c6 : w1.cell? ⟨w.heap.size + 1, 6, none⟩ = some (.bool false) := B.cell 6; have f6 := B.frozen 6; have c7 : w1.cell? ⟨w.heap.size + 1, 7, none⟩ = some (.int .i64 0) := B.cell 7; have f7 := B.frozen 7; have c8 : w1.cell? ⟨w.heap.size + 1, 8, none⟩ = some (.bool false) := B.cell 8; have f8 := B.frozen 8; have c9 : w1.cell? ⟨w.heap.size + 1, 9, none⟩ = some (.int .i64 0) := B.cell 9; have f9 := B.frozen 9; have c10 : w1.cell? ⟨w.heap.size + 1, 10, none⟩ = some (.int .i64 0) := B.cell 10; have f10 := B.frozen 10; have c11 : w1.cell? ⟨w.heap.size + 1, 11, none⟩ = some (.int .i64 0) := B.cell 11; have f11 := B.frozen 11; have c12 : w1.cell? ⟨w.heap.size + 1, 12, none⟩ = some (.bool false) := B.cell 12; have f12 := B.frozen 12; have c13 : w1.cell? ⟨w.heap.size + 1, 13, none⟩ = some (.int .i64 0) := B.cell 13; have f13 := B.frozen 13; have c14 : w1.cell? ⟨w.heap.size + 1, 14, none⟩ = some (.int .i64 0) := B.cell 14; have f14 := B.frozen 14; have c15 : w1.cell? ⟨w.heap.size + 1, 15, none⟩ = some (.int .i64 0) := B.cell 15; have f15 := B.frozen 15; have n1 := B.lt; have E2 : Ext [] w w1 := (((Ext.refl [] w).alloc _).alloc _).trans E1)
  have BS := ((((((((((((((((B.set 0 (.string ⟨#[]⟩)).set 1 (.int .i64 0)).set 2 (.int .i64 0)).set 3 (.bool false)).set 4 (.int .i64 0)).set 5 (.int .i64 0)).set 6 (.bool false)).set 7 (.int .i64 0)).set 8 (.bool false)).set 9 (.int .i64 0)).set 10 (.int .i64 0)).set 11 (.int .i64 0)).set 12 (.bool false)).set 13 (.int .i64 0)).set 14 (.int .i64 0)).set 15 (.int .i64 0))
  have ES : Ext [] w _ := ((((((((((((((((E2.setCell ⟨w.heap.size + 1, 0, none⟩ (.inr (by simp)) (.string ⟨#[]⟩)).setCell ⟨w.heap.size + 1, 1, none⟩ (.inr (by simp)) (.int .i64 0)).setCell ⟨w.heap.size + 1, 2, none⟩ (.inr (by simp)) (.int .i64 0)).setCell ⟨w.heap.size + 1, 3, none⟩ (.inr (by simp)) (.bool false)).setCell ⟨w.heap.size + 1, 4, none⟩ (.inr (by simp)) (.int .i64 0)).setCell ⟨w.heap.size + 1, 5, none⟩ (.inr (by simp)) (.int .i64 0)).setCell ⟨w.heap.size + 1, 6, none⟩ (.inr (by simp)) (.bool false)).setCell ⟨w.heap.size + 1, 7, none⟩ (.inr (by simp)) (.int .i64 0)).setCell ⟨w.heap.size + 1, 8, none⟩ (.inr (by simp)) (.bool false)).setCell ⟨w.heap.size + 1, 9, none⟩ (.inr (by simp)) (.int .i64 0)).setCell ⟨w.heap.size + 1, 10, none⟩ (.inr (by simp)) (.int .i64 0)).setCell ⟨w.heap.size + 1, 11, none⟩ (.inr (by simp)) (.int .i64 0)).setCell ⟨w.heap.size + 1, 12, none⟩ (.inr (by simp)) (.bool false)).setCell ⟨w.heap.size + 1, 13, none⟩ (.inr (by simp)) (.int .i64 0)).setCell ⟨w.heap.size + 1, 14, none⟩ (.inr (by simp)) (.int .i64 0)).setCell ⟨w.heap.size + 1, 15, none⟩ (.inr (by simp)) (.int .i64 0))
  exact flows_fin (BS.alloc _) rfl rfl rfl ⟨rfl, ES.alloc _⟩
end Go.Proofs.YtkpholfdjgdjnaaGreatDoor
