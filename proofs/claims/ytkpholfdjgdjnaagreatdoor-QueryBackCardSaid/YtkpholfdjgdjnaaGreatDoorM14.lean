/- Texts of the claim, joined: V4 V5. -/
import Derived.Test.YtkpholfdjgdjnaaGreatDoorM13
namespace Go.Proofs.YtkpholfdjgdjnaaGreatDoor
open Go Go.RowKit Go.Proofs Go.Shelf
theorem Bytes.ext2 {S : List Nat} {w w' : World} {base : Nat} {v : Value} {n : Nat} (h : Bytes w base v n) (e : Ext S w w') (hS : ∀ x ∈ S, x < base) : Bytes w' base v n := by
  obtain ⟨xs, h1, h2⟩ := h
  exact ⟨xs, ownsRow_ext h1 e hS, h2⟩
set_option maxRecDepth 100000 in
set_option maxHeartbeats 1000000 in
theorem next_calls (w : World) (d b : Nat) (h : Disk w d b zeros64 0) :
    Calls Tryz.prog 133 #[.pointer (some ⟨d, 0, none⟩)] w fun e w' => e = .returned (.tuple #[.int .i64 1, .int .i64 0]) ∧ Ext [d, b] w w' ∧ ∃ cs', Disk w' d b cs' 2 := by
  have HD := Lib.hid h
  have hd := h.blk.lt
  have hb := h.row.lt
  clear h
  have tok1 : True := trivial
  go_enter Tryz.func133, Tryz.ntmps133
  go_wp2_with (first
    | (go_at_call 170; refine (slots_calls _ d b 0 HD.out).mono ?_; rintro e w1 ⟨rfl, E1⟩; have z1 := E1.size)
    | (go_at_call 171; refine (record1_calls _).mono ?_; rintro e w2 ⟨v1, v2, rfl, B1, B2, E2⟩; obtain ⟨g1, c1, rfl⟩ := B1.shape (by decide); obtain ⟨g2, c2, rfl⟩ := B2.shape (by decide); have H1 := Lib.hid B1; have H2 := Lib.hid B2; clear B1 B2; have D2 := Lib.hid ((HD.out.ext E1).ext E2))
    | (go_at_call 172; have _t := tok1; refine (write_calls _ d b _ 0 0 g1 c1 w1.heap.size (.inl rfl) D2.out H1.out (by decide)).mono ?_; rintro e w3 ⟨rfl, E3, cs3, D3⟩; have H3 := Lib.hid (H2.out.ext2 E3 (by simp; omega)); have D3' := Lib.hid D3; clear D3 tok1 _t)
    | (go_at_call 172; refine (write_calls _ d b _ (0 + 1) 1 g2 c2 w1.heap.size (.inr rfl) D3'.out H3.out (by decide)).mono ?_; rintro e w4 ⟨rfl, E4, cs4, D4⟩))
  go_ret2
  exact ⟨rfl, ((E1.trans E2).mono (by simp)).trans (E3.trans E4), cs4, D4⟩
theorem Disk.ext2 {S : List Nat} {w w' : World} {d b : Nat} {cs : List Value} {n : Int} (h : Disk w d b cs n) (e : Ext S w w') (hd : d ∉ S) (hb : b ∉ S) : Disk w' d b cs n :=
  ⟨h.blk.ext e hd, h.row.ext e hb, h.len, h.u8, h.ne, h.n0⟩
def newN (id : Nat) : List Value := [.int .i64 id, .int .i64 1, .int .i64 0, .slice none 0 0, .int .i64 0, .slice none 0 0, .slice none 0 0, .slice none 0 0]
set_option maxRecDepth 100000 in
theorem nodeNew_calls (w : World) (id : Nat) (h : id < 16) :
    Calls Tryz.prog 134 #[.int .i64 id, .int .i64 1] w fun e w' => e = .returned (.agg (newN id).toArray) ∧ Ext [] w w' := by
  have h0 : (0 : Int) ≤ (id : Int) := by omega
  have h16 : (id : Int) < 16 := by omega
  go_enter Tryz.func134, Tryz.ntmps134
  go_wp2_with fail
  refine bodyPost_ret (v := .agg (newN id).toArray) (by simp [results, Tryz.results134, go_sem, newN]) rfl ⟨rfl, (Ext.refl [] w).alloc _⟩
theorem start_fin {R : Ending → World → Prop} {a : Act} {w3 : World} {h id : Nat} (B : Blk w3 h (newN id) 102)
    (h4 : a.tmps.getD 4 undef = .pointer (some ⟨h, 0, none⟩)) (h5 : a.tmps.getD 5 undef = .int .i64 0) (hd : a.defers = []) (hR : R (.returned (.tuple #[.agg (newN id).toArray, .int .i64 0])) w3) :
    bodyPost Tryz.prog Tryz.f84 R .ret a w3 := by
  have hc0 : w3.cell? ⟨h, 0, none⟩ = some (.int .i64 id) := B.cell 0
  have hc1 : w3.cell? ⟨h, 1, none⟩ = some (.int .i64 1) := B.cell 1
  have hc2 : w3.cell? ⟨h, 2, none⟩ = some (.int .i64 0) := B.cell 2
  have hc3 : w3.cell? ⟨h, 3, none⟩ = some (.slice none 0 0) := B.cell 3
  have hc4 : w3.cell? ⟨h, 4, none⟩ = some (.int .i64 0) := B.cell 4
  have hc5 : w3.cell? ⟨h, 5, none⟩ = some (.slice none 0 0) := B.cell 5
  have hc6 : w3.cell? ⟨h, 6, none⟩ = some (.slice none 0 0) := B.cell 6
  have hc7 : w3.cell? ⟨h, 7, none⟩ = some (.slice none 0 0) := B.cell 7
  refine bodyPost_ret (v := .tuple #[.agg (newN id).toArray, .int .i64 0]) ?_ hd hR
  rw [Array.getD_eq_getD_getElem?] at h4 h5
  simp [results, Tryz.results84, go_sem, newN, h4, h5, hc0, hc1, hc2, hc3, hc4, hc5, hc6, hc7]
set_option maxRecDepth 100000 in
set_option maxHeartbeats 1000000 in
theorem start_calls (w : World) (d b id : Nat) (hid : id < 16) (h : Disk w d b zeros64 0) :
    Calls Tryz.prog 84 #[.pointer (some ⟨d, 0, none⟩), .int .i64 id] w fun e w' => e = .returned (.tuple #[.agg (newN id).toArray, .int .i64 0]) ∧ Ext [d, b] w w' ∧ ∃ cs', Disk w' d b cs' 2 := by
  have HD := Lib.hid h
  have hd := h.blk.lt
  have hb := h.row.lt
  clear h
  go_enter Tryz.func84, Tryz.ntmps84
  go_wp2_with (first
    | (go_at_call 133; refine (next_calls _ d b (HD.out.ext ((Ext.refl [] w).alloc _))).mono ?_; rintro e w1 ⟨rfl, E1, cs1, D1⟩; have B1 := (Blk.new w [.int .i64 0, .int .i64 0, .int .i64 0, .slice none 0 0, .int .i64 0, .slice none 0 0, .slice none 0 0, .slice none 0 0] 102).ext E1 (by simp; omega); have z1 := E1.size)
    | (go_at_call 134; refine (nodeNew_calls _ id hid).mono ?_; rintro e w2 ⟨rfl, E2⟩; unfold newN; have B2 := B1.ext E2 (by simp); have D2 := D1.ext E2; have hc0 : w2.cell? ⟨w.heap.size, 0, none⟩ = some (.int .i64 0) := B2.cell 0; have hc1 : w2.cell? ⟨w.heap.size, 1, none⟩ = some (.int .i64 0) := B2.cell 1; have hc2 : w2.cell? ⟨w.heap.size, 2, none⟩ = some (.int .i64 0) := B2.cell 2; have hc3 : w2.cell? ⟨w.heap.size, 3, none⟩ = some (.slice none 0 0) := B2.cell 3; have hc4 : w2.cell? ⟨w.heap.size, 4, none⟩ = some (.int .i64 0) := B2.cell 4; have hc5 : w2.cell? ⟨w.heap.size, 5, none⟩ = some (.slice none 0 0) := B2.cell 5; have hc6 : w2.cell? ⟨w.heap.size, 6, none⟩ = some (.slice none 0 0) := B2.cell 6; have hc7 : w2.cell? ⟨w.heap.size, 7, none⟩ = some (.slice none 0 0) := B2.cell 7; have f0 := B2.frozen 0; have f1 := B2.frozen 1; have f2 := B2.frozen 2; have f3 := B2.frozen 3; have f4 := B2.frozen 4; have f5 := B2.frozen 5; have f6 := B2.frozen 6; have f7 := B2.frozen 7))
  have BS := (((((((B2.set 0 (.int .i64 id)).set 1 (.int .i64 1)).set 2 (.int .i64 0)).set 3 (.slice none 0 0)).set 4 (.int .i64 0)).set 5 (.slice none 0 0)).set 6 (.slice none 0 0)).set 7 (.slice none 0 0)
  have DS : Ext [w.heap.size] w2 _ := (((((((((Ext.refl [w.heap.size] w2).setCell ⟨w.heap.size, 0, none⟩ (by simp) (.int .i64 id)).setCell ⟨w.heap.size, 1, none⟩ (by simp) (.int .i64 1)).setCell ⟨w.heap.size, 2, none⟩ (by simp) (.int .i64 0)).setCell ⟨w.heap.size, 3, none⟩ (by simp) (.slice none 0 0)).setCell ⟨w.heap.size, 4, none⟩ (by simp) (.int .i64 0)).setCell ⟨w.heap.size, 5, none⟩ (by simp) (.slice none 0 0)).setCell ⟨w.heap.size, 6, none⟩ (by simp) (.slice none 0 0)).setCell ⟨w.heap.size, 7, none⟩ (by simp) (.slice none 0 0))
  refine start_fin (id := id) BS rfl rfl rfl ⟨rfl, ?_, cs1, ?_⟩
  · exact ((((Ext.refl [d, b] w).alloc _).trans E1).trans E2.nil).step DS (by simp)
  · exact D2.ext2 DS (by simp; omega) (by simp; omega)
end Go.Proofs.YtkpholfdjgdjnaaGreatDoor
namespace Go.Proofs.YtkpholfdjgdjnaaGreatDoor
open Go Go.RowKit Go.Proofs Go.Shelf
theorem Tryz.info102 : (Tryz.prog.info? 102).map (fun i => (i.zero, i.size, i.bytes)) = some (some (.agg #[.int .i64 0, .int .i64 0, .int .i64 0, .slice none 0 0, .int .i64 0, .slice none 0 0, .slice none 0 0, .slice none 0 0]), 8, 128) := by kernel_rfl
theorem Tryz.info4 : (Tryz.prog.info? 4).map (fun i => (i.zero, i.size, i.bytes)) = some (some (.bool false), 1, 1) := by kernel_rfl
theorem Tryz.info103 : (Tryz.prog.info? 103).map (fun i => (i.zero, i.size, i.bytes)) = some (some (.slice none 0 0), 1, 24) := by kernel_rfl
theorem Blk.grown {w w' : World} {b : Nat} {c : List Value} {t : TypeId} {row : Option Nat} (h : Blk w b c t) (hg : w.grownBy w' row) (hr : ∀ k, row = some k → b < k) : Blk w' b c t :=
  (hg.block b h.lt (fun e => Nat.lt_irrefl b (hr b e.symm))).trans h
theorem owns_far {w : World} {base : Nat} {e1 e2 : TypeId} {s1 s2 : Nat} {v1 v2 : Value} {n1 n2 : Nat} {x1 x2 : List Value} (h1 : w.ownsRow base e1 s1 v1 n1 x1) (h2 : w.ownsRow base e2 s2 v2 n2 x2) (hne : e1 ≠ e2) : v1.ownBlock = none ∨ v1.ownBlock ≠ v2.ownBlock := by
  rcases h1.2 with ⟨rfl, _⟩ | ⟨g, cap, cur, rfl, hb, hgg, rest⟩
  · exact .inl rfl
  · rcases h2.2 with ⟨rfl, _⟩ | ⟨g2, cap2, cur2, rfl, hb2, hgg2, rest2⟩
    · exact .inr (by simp [Value.ownBlock])
    · refine .inr fun h => ?_
      simp only [Value.ownBlock, Option.some.injEq] at h
      subst h
      rw [hgg] at hgg2
      simp only [Option.some.injEq, Obj.cells.injEq] at hgg2
      exact hne hgg2.2.1
theorem Disk.grown {w w' : World} {d b : Nat} {cs : List Value} {n : Int} {row : Option Nat} (h : Disk w d b cs n) (hg : w.grownBy w' row) (hr : ∀ k, row = some k → k ≠ d ∧ k ≠ b) : Disk w' d b cs n :=
  ⟨(hg.block d h.blk.lt (fun e => (hr d e.symm).1 rfl)).trans h.blk, (hg.block b h.row.lt (fun e => (hr b e.symm).2 rfl)).trans h.row, h.len, h.u8, h.ne, h.n0⟩
theorem Disk.set_other {w : World} {d b : Nat} {cs : List Value} {n : Int} (h : Disk w d b cs n) (p : Addr) (v : Value) (h1 : p.block ≠ d) (h2 : p.block ≠ b) : Disk (w.setCell p v) d b cs n :=
  ⟨h.blk.set_other p h1 v, h.row.set_other p h2 v, h.len, h.u8, h.ne, h.n0⟩
structure NW (W : World) (wb base : Nat) (vN vU vD : Value) (a u c : Nat) : Prop where
  blk : Blk W wb [vN, vU, vD, .int .i64 0, .slice none 0 0, .slice none 0 0, .int .i64 0] 46
  nodes : W.ownsRow base 102 8 vN a ((List.range a).flatMap newN)
  ups : W.ownsRow base 4 1 vU u (List.replicate u (.bool true))
  disks : ∃ xs, W.ownsRow base 103 1 vD c xs
  lt : wb < base
theorem NW.ext {S : List Nat} {W W' : World} {wb base : Nat} {vN vU vD : Value} {a u c : Nat} (h : NW W wb base vN vU vD a u c) (e : Ext S W W') (hS : ∀ b ∈ S, b < base) (hb : wb ∉ S) : NW W' wb base vN vU vD a u c :=
  ⟨h.blk.ext e hb, ownsRow_ext h.nodes e hS, ownsRow_ext h.ups e hS, by obtain ⟨xs, h1⟩ := h.disks; exact ⟨xs, ownsRow_ext h1 e hS⟩, h.lt⟩
theorem NW.keep {W W' : World} {wb base : Nat} {vN vU vD : Value} {a u c : Nat} (h : NW W wb base vN vU vD a u c) (e : Ext [] W W') : NW W' wb base vN vU vD a u c := h.ext e (by simp) (by simp)
theorem range_snoc (a : Nat) : (List.range (a + 1)).flatMap newN = (List.range a).flatMap newN ++ newN a := by rw [List.range_succ, List.flatMap_append]; simp
theorem NW.node {W W' : World} {wb base : Nat} {vN vU vD v' : Value} {a u c : Nat} (h : NW W wb base vN vU vD a u c) (ho : W'.ownsRow base 102 8 v' (a + 1) ((List.range a).flatMap newN ++ newN a)) (hg : W.grownBy W' vN.ownBlock) :
    Blk W' wb [vN, vU, vD, .int .i64 0, .slice none 0 0, .slice none 0 0, .int .i64 0] 46 ∧ NW (W'.setCell ⟨wb, 0, none⟩ v') wb base v' vU vD (a + 1) u c := by
  have hB := h.blk.grown hg (fun k hk => Nat.lt_of_lt_of_le h.lt (h.nodes.lt k hk).1)
  have hx : Ext [wb] W' (W'.setCell ⟨wb, 0, none⟩ v') := (Ext.refl _ _).setCell _ (by simp) _
  have hl : ∀ b ∈ [wb], b < base := by simpa using h.lt
  refine ⟨hB, hB.set 0 v', ownsRow_ext (by rw [range_snoc]; exact ho) hx hl, ownsRow_ext (h.ups.kept hg (owns_far h.ups h.nodes (by decide))) hx hl, ?_, h.lt⟩
  obtain ⟨xs, h1⟩ := h.disks
  exact ⟨xs, ownsRow_ext (h1.kept hg (owns_far h1 h.nodes (by decide))) hx hl⟩
theorem NW.up {W W' : World} {wb base : Nat} {vN vU vD v' : Value} {a u c : Nat} (h : NW W wb base vN vU vD a u c) (ho : W'.ownsRow base 4 1 v' (u + 1) (List.replicate u (.bool true) ++ [.bool true])) (hg : W.grownBy W' vU.ownBlock) :
    Blk W' wb [vN, vU, vD, .int .i64 0, .slice none 0 0, .slice none 0 0, .int .i64 0] 46 ∧ NW (W'.setCell ⟨wb, 1, none⟩ v') wb base vN v' vD a (u + 1) c := by
  have hB := h.blk.grown hg (fun k hk => Nat.lt_of_lt_of_le h.lt (h.ups.lt k hk).1)
  have hx : Ext [wb] W' (W'.setCell ⟨wb, 1, none⟩ v') := (Ext.refl _ _).setCell _ (by simp) _
  have hl : ∀ b ∈ [wb], b < base := by simpa using h.lt
  refine ⟨hB, hB.set 1 v', ownsRow_ext (h.nodes.kept hg (owns_far h.nodes h.ups (by decide))) hx hl, ownsRow_ext (by rw [List.replicate_succ']; exact ho) hx hl, ?_, h.lt⟩
  obtain ⟨xs, h1⟩ := h.disks
  exact ⟨xs, ownsRow_ext (h1.kept hg (owns_far h1 h.ups (by decide))) hx hl⟩
theorem NW.disk {W W' : World} {wb base : Nat} {vN vU vD v' : Value} {a u c : Nat} {xs ys : List Value} (h : NW W wb base vN vU vD a u c) (h1 : W.ownsRow base 103 1 vD c xs) (ho : W'.ownsRow base 103 1 v' (c + 1) ys) (hg : W.grownBy W' vD.ownBlock) :
    Blk W' wb [vN, vU, vD, .int .i64 0, .slice none 0 0, .slice none 0 0, .int .i64 0] 46 ∧ NW (W'.setCell ⟨wb, 2, none⟩ v') wb base vN vU v' a u (c + 1) := by
  have hB := h.blk.grown hg (fun k hk => Nat.lt_of_lt_of_le h.lt (h1.lt k hk).1)
  have hx : Ext [wb] W' (W'.setCell ⟨wb, 2, none⟩ v') := (Ext.refl _ _).setCell _ (by simp) _
  have hl : ∀ b ∈ [wb], b < base := by simpa using h.lt
  exact ⟨hB, hB.set 2 v', ownsRow_ext (h.nodes.kept hg (owns_far h.nodes h1 (by decide))) hx hl, ownsRow_ext (h.ups.kept hg (owns_far h.ups h1 (by decide))) hx hl, ⟨ys, ownsRow_ext ho hx hl⟩, h.lt⟩
theorem Blk.seven {w : World} {b : Nat} {v0 v1 v2 v3 v4 v5 v6 : Value} {t : TypeId} (h : Blk w b [v0, v1, v2, v3, v4, v5, v6] t) :
    w.cell? ⟨b, 0, none⟩ = some v0 ∧ w.cell? ⟨b, 1, none⟩ = some v1 ∧ w.cell? ⟨b, 2, none⟩ = some v2 ∧ w.cell? ⟨b, 3, none⟩ = some v3 ∧ w.cell? ⟨b, 4, none⟩ = some v4 ∧ w.cell? ⟨b, 5, none⟩ = some v5 ∧ w.cell? ⟨b, 6, none⟩ = some v6 :=
  ⟨h.cell 0, h.cell 1, h.cell 2, h.cell 3, h.cell 4, h.cell 5, h.cell 6⟩
theorem new_fin {R : Ending → World → Prop} {a : Act} {w3 : World} {h : Nat} {v0 v1 v2 v3 v4 v5 v6 : Value} (B : Blk w3 h [v0, v1, v2, v3, v4, v5, v6] 46)
    (h2 : a.tmps.getD 2 undef = .pointer (some ⟨h, 0, none⟩)) (h3 : a.tmps.getD 3 undef = .int .i64 0) (hd : a.defers = []) (hR : R (.returned (.tuple #[.agg #[v0, v1, v2, v3, v4, v5, v6], .int .i64 0])) w3) :
    bodyPost Tryz.prog Tryz.f37 R .ret a w3 := by
  obtain ⟨hc0, hc1, hc2, hc3, hc4, hc5, hc6⟩ := B.seven
  refine bodyPost_ret (v := .tuple #[.agg #[v0, v1, v2, v3, v4, v5, v6], .int .i64 0]) ?_ hd hR
  rw [Array.getD_eq_getD_getElem?] at h2 h3
  simp [results, Tryz.results37, go_sem, h2, h3, hc0, hc1, hc2, hc3, hc4, hc5, hc6]
def zero7 : List Value := [.slice none 0 0, .slice none 0 0, .slice none 0 0, .int .i64 0, .slice none 0 0, .slice none 0 0, .int .i64 0]
set_option maxRecDepth 100000 in
set_option maxHeartbeats 2000000 in
theorem new_calls (w : World) :
    Calls Tryz.prog 37 #[.int .i64 2] w fun e w' => ∃ vN vU vD, e = .returned (.tuple #[.agg #[vN, vU, vD, .int .i64 0, .slice none 0 0, .slice none 0 0, .int .i64 0], .int .i64 0]) ∧ Ext [] w w' ∧
      w'.ownsRow w.heap.size 102 8 vN 2 (newN 0 ++ newN 1) ∧ w'.ownsRow w.heap.size 4 1 vU 2 [.bool true, .bool true] ∧ ∃ aD nD cD, vD = .slice aD nD cD := by
  obtain ⟨i0, hi, hz0, hz1, hz2⟩ := info_parts Tryz.info102
  obtain ⟨j0, hj, hy0, hy1, hy2⟩ := info_parts Tryz.info4
  obtain ⟨k0, hk, hx0, hx1, hx2⟩ := info_parts Tryz.info103
  go_enter Tryz.func37, Tryz.ntmps37
  go_wp2_with fail
  go_loopw [5] (fun i wr => ∃ (k : Nat) (vN vU vD : Value), i = .int .i64 k ∧ k ≤ 2 ∧ Ext [] w wr ∧ Blk wr w.heap.size zero7 46 ∧ NW wr (w.heap.size + 1) (w.heap.size + 2) vN vU vD k k k) (fun i _ => 2 - (intOf i).toNat)
  case atStart =>
    have B2 := Blk.new (w.alloc (.cells zero7.toArray 46)) zero7 46
    rw [World.size_alloc] at B2
    exact ⟨0, .slice none 0 0, .slice none 0 0, .slice none 0 0, rfl, by omega, ((Ext.refl [] w).alloc _).alloc _, (Blk.new w zero7 46).alloc _, B2, World.ownsRow_nil _ _ _ _, World.ownsRow_nil _ _ _ _, ⟨_, World.ownsRow_nil _ _ _ _⟩, by omega⟩
  case round =>
    obtain ⟨k, vN, vU, vD, rfl, hk2, E, BZ, N⟩ := hrel
    have hlt : k < 2 ∨ k = 2 := by omega
    have hsz := N.blk.lt
    rcases hlt with hlt | rfl
    · have HN := Lib.hid N
      have HZ := Lib.hid BZ
      obtain ⟨xs, hxs⟩ := N.disks
      have hxl : xs.length = k := by have := hxs.1; omega
      have hNlt := Lib.hid (fun k hk => (N.nodes.lt k hk).2)
      have hUlt := Lib.hid (fun k hk => (N.ups.lt k hk).2)
      clear BZ N
      go_upto_region 10 with (first
        | (go_at_call 83; refine (diskNew_calls _).mono ?_; rintro e w1 ⟨rfl, E1, D1⟩; have z1 := E1.size)
        | (go_at_call 84; refine (start_calls _ _ _ k (by omega) D1).mono ?_; rintro e w2 ⟨rfl, E2, cs2, D2⟩; have z2 := E2.size; have E3 : Ext [] wr w2 := E1.step E2 (by simp); have HD := Lib.hid D2; have N2 := HN.out.keep E3; have Z2 := HZ.out.ext E3 (by simp); obtain ⟨c0, c1, c2, _⟩ := N2.blk.seven; have f0 := N2.blk.frozen 0; have n2 : w.heap.size + 1 < w2.heap.size := N2.blk.lt; unfold newN; have N3 := N2.keep ((Ext.refl [] w2).alloc (.cells (newN k).toArray 102)); clear D1 D2)
        | (at_builtin; go_loud (refine wpList_append_own _ rfl _ _ 38 rfl (w.heap.size + 2) 102 i0 _ 8 128 Tryz.underlying38 hi hz0 hz1 hz2 rfl (by decide) _ _ _ rfl (N3.nodes.alloc _) ⟨_, 0, none⟩ 1 1 (newN k) rfl rfl ?c1 ?c2 ?c3 ?c4 ?c5 ?_; (case c1 => (have cn := cells_new (w2.alloc (.cells (newN k).toArray 102)) (newN k) 102; rw [World.size_alloc] at cn; exact cn)); (case c2 => simp [Value.oneCell', newN]); (case c3 => unfold maxLen; omega); (case c4 => omega); (case c5 => simp; omega); intro v' w6 hown' hgrow _; obtain ⟨A6, p6, rfl⟩ := ownsRow_shape hown'; obtain ⟨B6, N6⟩ := (N3.keep ((Ext.refl [] _).alloc _)).node hown' hgrow; have F6 : Ext [] w w6 := ((((E.trans E3).alloc _).alloc _)).grown hgrow (fun k hk => .inr (by have := (N3.nodes.lt k hk).1; omega)); have HZ6 := Lib.hid ((((Z2.alloc _).alloc _)).grown hgrow (fun k hk => by have := (N3.nodes.lt k hk).1; omega)); obtain ⟨g0, g1, g2, _⟩ := B6.seven; have j0 := B6.frozen 0; have z6 := F6.size; have HD6 := Lib.hid (((HD.out.ext ((Ext.refl [] w2).alloc _)).ext ((Ext.refl [] _).alloc _)).grown hgrow (fun k hk => by have := hNlt.out k hk; omega)))))
      have F7 := F6.setCell ⟨w.heap.size + 1, 0, none⟩ (.inr (by simp)) (.slice A6 (k + 1) p6)
      have HZ7 := Lib.hid (HZ6.out.set_other ⟨w.heap.size + 1, 0, none⟩ (by simp) (.slice A6 (k + 1) p6))
      have HD7 : Hid (∃ xs, (w6.setCell ⟨w.heap.size + 1, 0, none⟩ (.slice A6 (k + 1) p6)).ownsRow (w.heap.size + 2) 103 1 vD k xs) := N6.disks
      have HDk := Lib.hid (HD6.out.set_other ⟨w.heap.size + 1, 0, none⟩ (.slice A6 (k + 1) p6) (by simp; omega) (by simp; omega))
      have hszy : wr.heap.size ≤ (w6.setCell ⟨w.heap.size + 1, 0, none⟩ (.slice A6 (k + 1) p6)).heap.size := by have := hgrow.size; simp at this ⊢; omega
      clear HD HZ HZ6 F6 hgrow hown' E3 E2 E1 B6 N2 N3 HN hxs hxl c0 c1 c2 f0 g0 g1 g2 j0 Z2 HD6
      generalize w6.setCell ⟨w.heap.size + 1, 0, none⟩ (.slice A6 (k + 1) p6) = wy at *
      have HN := Lib.hid N6
      obtain ⟨c0, c1, c2, _⟩ := N6.blk.seven
      have f1 := N6.blk.frozen 1
      have n2 : w.heap.size + 1 < wy.heap.size := N6.blk.lt
      clear N6
      go_upto_region 11 with (at_builtin; refine wpList_append_own _ rfl _ _ 39 rfl (w.heap.size + 2) 4 j0 _ 1 1 Tryz.underlying39 hj hy0 hy1 hy2 rfl (by decide) _ _ _ rfl (HN.out.ups.alloc _) ⟨_, 0, none⟩ 1 1 [.bool true] rfl rfl ?c1 ?c2 ?c3 ?c4 ?c5 ?_; (case c1 => exact cells_new _ _ _); (case c2 => simp [Value.oneCell']); (case c3 => unfold maxLen; omega); (case c4 => omega); (case c5 => simp; omega); intro v' w8 hown' hgrow _; obtain ⟨A8, p8, rfl⟩ := ownsRow_shape hown'; obtain ⟨B8, N8⟩ := (HN.out.keep ((Ext.refl [] _).alloc _)).up hown' hgrow; have F8 : Ext [] w w8 := ((F7.alloc _)).grown hgrow (fun k hk => .inr (by have := (HN.out.ups.lt k hk).1; omega)); have HZ8 := Lib.hid ((HZ7.out.alloc _).grown hgrow (fun k hk => by have := (HN.out.ups.lt k hk).1; omega)); obtain ⟨g0, g1, g2, _⟩ := B8.seven; have q1 := B8.frozen 1; have z8 := F8.size; have HD8 := Lib.hid ((HDk.out.ext ((Ext.refl [] wy).alloc _)).grown hgrow (fun k hk => by have := hUlt.out k hk; omega)))
      have F9 := F8.setCell ⟨w.heap.size + 1, 1, none⟩ (.inr (by simp)) (.slice A8 (k + 1) p8)
      have HZ9 := Lib.hid (HZ8.out.set_other ⟨w.heap.size + 1, 1, none⟩ (by simp) (.slice A8 (k + 1) p8))
      have HD9 := Lib.hid (HD8.out.set_other ⟨w.heap.size + 1, 1, none⟩ (.slice A8 (k + 1) p8) (by simp; omega) (by simp; omega))
      have hszz : wr.heap.size ≤ (w8.setCell ⟨w.heap.size + 1, 1, none⟩ (.slice A8 (k + 1) p8)).heap.size := by have := hgrow.size; simp at this ⊢; omega
      clear HD8 HZ8 F8 F7 HZ7 HDk HN hgrow hown' B8 c0 c1 c2 f1 g0 g1 g2 q1 n2 HD7
      generalize w8.setCell ⟨w.heap.size + 1, 1, none⟩ (.slice A8 (k + 1) p8) = wz at *
      obtain ⟨xs, hxs⟩ := N8.disks
      have HXS := Lib.hid hxs
      have hxl : xs.length = k := by have := hxs.1; omega
      have HN := Lib.hid N8
      obtain ⟨c0, c1, c2, _⟩ := N8.blk.seven
      have f2 := N8.blk.frozen 2
      have n2 : w.heap.size + 1 < wz.heap.size := N8.blk.lt
      clear N8 hxs
      go_region_law (first
        | (refine step_append_lies _ rfl (.tmp 41) (.tmp 44) 40 rfl (w.heap.size + 2) 103 k0 _ 1 24 Tryz.underlying40 hk hx0 hx1 hx2 rfl (by decide) _ _ _ rfl (ownsRow_ext (S := []) HXS.out ?hext (by simp)) ⟨_, 0, none⟩ 1 1 [.slice (some ⟨gI, 0, none⟩) 64 capI] rfl rfl ?hnews ?h1 (by decide) ?h63 ?hby ?hbase _ rfl ?_; (case hext => exact (by (repeat (first | exact Ext.refl _ _ | assumption | with_reducible refine Ext.alloc ?_ _ | with_reducible refine Ext.drewN ?_ _ | with_reducible refine Ext.drew ?_)))); (case hnews => first | exact cells_new _ _ _ | exact World.news_of_block (by simp)); (case h1 => simp [Value.oneCell']); (case h63 => (unfold maxLen; omega)); (case hby => omega); (case hbase => (simp; omega)); intro g cap' w10 hown hgrow hat hlt'; obtain ⟨B10, N10⟩ := (HN.out.keep (by (repeat (first | exact Ext.refl _ _ | assumption | with_reducible refine Ext.alloc ?_ _ | with_reducible refine Ext.drewN ?_ _ | with_reducible refine Ext.drew ?_)))).disk (ownsRow_ext (S := []) HXS.out (by (repeat (first | exact Ext.refl _ _ | assumption | with_reducible refine Ext.alloc ?_ _ | with_reducible refine Ext.drewN ?_ _ | with_reducible refine Ext.drew ?_))) (by simp)) hown hgrow; obtain ⟨_, _, g2, _⟩ := B10.seven; have q2 := B10.frozen 2; have hXl := HXS.out.lt; have F10 : Ext [] w w10 := (F9.trans (by (repeat (first | exact Ext.refl _ _ | assumption | with_reducible refine Ext.alloc ?_ _ | with_reducible refine Ext.drewN ?_ _ | with_reducible refine Ext.drew ?_)))).grown hgrow (fun k hk => .inr (by have := (hXl k hk).1; omega)); have HZA := Lib.hid ((HZ9.out.ext (S := []) (by (repeat (first | exact Ext.refl _ _ | assumption | with_reducible refine Ext.alloc ?_ _ | with_reducible refine Ext.drewN ?_ _ | with_reducible refine Ext.drew ?_))) (by simp)).grown hgrow (fun k hk => by have := (hXl k hk).1; omega)))
        | (go_simp; go_at_call 85; refine (image_calls _ _ _ _ _ (HD9.out.ext (by (repeat (first | exact Ext.refl _ _ | assumption | with_reducible refine Ext.alloc ?_ _ | with_reducible refine Ext.drewN ?_ _ | with_reducible refine Ext.drew ?_))))).mono ?_; rintro e wi ⟨gI, capI, rfl, ownI, EI⟩; have FI : Ext [] wz wi := Ext.trans (by (repeat (first | exact Ext.refl _ _ | assumption | with_reducible refine Ext.alloc ?_ _ | with_reducible refine Ext.drewN ?_ _ | with_reducible refine Ext.drew ?_))) EI; have ci2 : wi.cell? _ = _ := FI.keeps c2 (by simp); have ni : w.heap.size + 1 < wi.heap.size := Nat.lt_of_lt_of_le n2 FI.size))
      all_goals go_wp2_with fail
      all_goals
        go_roundw
        case rel => exact ⟨k + 1, _, _, _, by go_num, by omega, F10.setCell ⟨w.heap.size + 1, 2, none⟩ (.inr (by simp)) _, HZA.out.set_other ⟨w.heap.size + 1, 2, none⟩ (by simp) _, N10⟩
        case measure => simp [intOf]; omega
    · have n2 : w.heap.size < wr.heap.size := BZ.lt
      obtain ⟨c0, c1, c2, c3, c4, c5, c6⟩ := N.blk.seven
      obtain ⟨d0, d1, d2, d3, d4, d5, d6⟩ := BZ.seven
      obtain ⟨aN, pN, rfl⟩ := ownsRow_shape N.nodes
      obtain ⟨aU, pU, rfl⟩ := ownsRow_shape N.ups
      obtain ⟨xs, hxs⟩ := N.disks
      obtain ⟨aD, pD, rfl⟩ := ownsRow_shape hxs
      have HN := Lib.hid N
      have HZ := Lib.hid BZ
      clear hxs
      have f0 := BZ.frozen 0
      have f1 := BZ.frozen 1
      have f2 := BZ.frozen 2
      have f3 := BZ.frozen 3
      have f4 := BZ.frozen 4
      have f5 := BZ.frozen 5
      have f6 := BZ.frozen 6
      clear BZ N
      go_wp2_with fail
      have BS := ((((((HZ.out.set 0 (.slice aN 2 pN)).set 1 (.slice aU 2 pU)).set 2 (.slice aD 2 pD)).set 3 (.int .i64 0)).set 4 (.slice none 0 0)).set 5 (.slice none 0 0)).set 6 (.int .i64 0)
      have DS : Ext [w.heap.size] wr _ := (((((((Ext.refl [w.heap.size] wr).setCell ⟨w.heap.size, 0, none⟩ (by simp) (.slice aN 2 pN)).setCell ⟨w.heap.size, 1, none⟩ (by simp) (.slice aU 2 pU)).setCell ⟨w.heap.size, 2, none⟩ (by simp) (.slice aD 2 pD)).setCell ⟨w.heap.size, 3, none⟩ (by simp) (.int .i64 0)).setCell ⟨w.heap.size, 4, none⟩ (by simp) (.slice none 0 0)).setCell ⟨w.heap.size, 5, none⟩ (by simp) (.slice none 0 0)).setCell ⟨w.heap.size, 6, none⟩ (by simp) (.int .i64 0)
      refine new_fin BS rfl rfl rfl ⟨_, _, _, rfl, E.step DS (by simp), ?_, ?_, ⟨_, _, _, rfl⟩⟩
      · exact ownsRow_base (ownsRow_ext HN.out.nodes DS (by simp)) (by omega)
      · exact ownsRow_base (ownsRow_ext HN.out.ups DS (by simp)) (by omega)
end Go.Proofs.YtkpholfdjgdjnaaGreatDoor
