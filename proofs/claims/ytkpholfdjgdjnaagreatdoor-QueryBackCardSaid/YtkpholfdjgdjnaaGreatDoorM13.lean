/- Texts of the claim, joined: V0 V1 V2 V3. -/
import Derived.Test.YtkpholfdjgdjnaaGreatDoorM12
import Derived.Laws.MakeOwn
import Derived.Laws.CopyOwn
import Derived.Lib.SlBytesConst
import Derived.Lib.BufferRead
import Derived.Deep.RegionHeld3
namespace Go.Proofs.YtkpholfdjgdjnaaGreatDoor
open Go Go.RowKit Go.Proofs Go.Shelf
structure Disk (w : World) (d b : Nat) (cs : List Value) (n : Int) : Prop where
  blk : Blk w d [.bool true, .slice (some ⟨b, 0, none⟩) 64 64, .bool false, .int .i64 (-1), .bool false, .int .i64 n] 210
  row : Blk w b cs 5
  len : cs.length = 64
  u8 : ∀ v ∈ cs, ∃ x : Int, v = .int .u8 x
  ne : d ≠ b
  n0 : 0 ≤ n ∧ n ≤ 1000
theorem Disk.ext {w w' : World} {d b : Nat} {cs : List Value} {n : Int} (h : Disk w d b cs n) (e : Ext [] w w') : Disk w' d b cs n :=
  ⟨h.blk.ext e (by simp), h.row.ext e (by simp), h.len, h.u8, h.ne, h.n0⟩
theorem Tryz.info5 : (Tryz.prog.info? 5).map (fun i => (i.zero, i.size, i.bytes)) = some (some (.int .u8 0), 1, 1) := by kernel_rfl
def zeros64 : List Value := List.replicate 64 (.int .u8 0)
set_option maxRecDepth 100000 in
theorem diskNew_calls (w : World) :
    Calls Tryz.prog 83 #[.int .i64 4] w fun e w' => e = .returned (.pointer (some ⟨w.heap.size + 1, 0, none⟩)) ∧ Ext [] w w' ∧ Disk w' (w.heap.size + 1) w.heap.size zeros64 0 := by
  have hmk : ∀ (W : World), (Instr.makeSlice 103 (.int .i64 64) (.int .i64 64)).run Tryz.prog W = .ok (.slice (some ⟨W.heap.size, 0, none⟩) 64 64) (W.alloc (.cells zeros64.toArray 5)) := fun W => by kernel_rfl
  go_enter Tryz.func83, Tryz.ntmps83
  go_wp2_with fail
  go_ret
  refine ⟨rfl, ((Ext.refl [] w).alloc _).alloc _, ?_, (Blk.new w zeros64 5).alloc _, by decide, ?_, by omega, by decide⟩
  · have := Blk.new (w.alloc (.cells zeros64.toArray 5)) [.bool true, .slice (some ⟨w.heap.size, 0, none⟩) 64 64, .bool false, .int .i64 (-1), .bool false, .int .i64 0] 210
    rwa [World.size_alloc] at this
  · intro v hv
    unfold zeros64 at hv
    rw [List.mem_replicate] at hv
    exact ⟨0, hv.2⟩
theorem dead_calls (w : World) (d b : Nat) (cs : List Value) (n : Int) (h : Disk w d b cs n) :
    Calls Tryz.prog 204 #[.pointer (some ⟨d, 0, none⟩)] w fun e w' => e = .returned (.bool false) ∧ w' = w := by
  have c0 := h.blk.cell 0
  have c2 := h.blk.cell 2
  simp only [List.getElem?_cons_zero, List.getElem?_cons_succ] at c0 c2
  go_enter Tryz.func204, Tryz.ntmps204
  go_wp2_with fail
  go_ret
  exact ⟨rfl, rfl⟩
theorem sectors_calls (w : World) (d b : Nat) (cs : List Value) (n : Int) (h : Disk w d b cs n) :
    Calls Tryz.prog 205 #[.pointer (some ⟨d, 0, none⟩)] w fun e w' => e = .returned (.int .i64 4) ∧ w' = w := by
  have c1 := h.blk.cell 1
  simp only [List.getElem?_cons_zero, List.getElem?_cons_succ] at c1
  go_enter Tryz.func205, Tryz.ntmps205
  go_wp2_with fail
  go_ret
  exact ⟨rfl, rfl⟩
theorem image_calls (w : World) (d b : Nat) (cs : List Value) (n : Int) (h : Disk w d b cs n) :
    Calls Tryz.prog 85 #[.pointer (some ⟨d, 0, none⟩)] w fun e w' => ∃ g cap, e = .returned (.slice (some ⟨g, 0, none⟩) 64 cap) ∧ w'.ownsRow w.heap.size 5 1 (.slice (some ⟨g, 0, none⟩) 64 cap) 64 cs ∧ Ext [] w w' := by
  obtain ⟨i0, hi, hz0, hz1, hz2⟩ := info_parts Tryz.info5
  have c1 := h.blk.cell 1
  simp only [List.getElem?_cons_zero, List.getElem?_cons_succ] at c1
  have hnews : ∀ j u, cs[j]? = some u → w.cell? ((⟨b, 0, none⟩ : Addr).add j) = some u := fun j u hu => by rw [add_at, Nat.zero_add, h.row.cell j]; exact hu
  have hone : ∀ u ∈ cs, u.oneCell' = true := fun u hu => by obtain ⟨x, rfl⟩ := h.u8 u hu; rfl
  have hlen := h.len
  clear h
  go_enter Tryz.func85, Tryz.ntmps85
  go_wp2_with (at_builtin; refine wpList_append_lies _ rfl _ _ 103 rfl w.heap.size 5 i0 _ 1 1 Tryz.underlying103 hi hz0 hz1 hz2 rfl (by decide) _ _ _ rfl (World.ownsRow_nil _ _ _ _) ⟨b, 0, none⟩ 64 64 cs rfl (by rw [hlen]) hnews hone (by decide) (by decide) (by decide) (Nat.le_refl _) _ rfl ?_; intro g cap w1 hown hgrow _ _)
  go_ret
  exact ⟨g, cap, rfl, by simpa using hown, (Ext.refl [] w).grown hgrow (by intro k hk; cases hk)⟩
end Go.Proofs.YtkpholfdjgdjnaaGreatDoor
namespace Go.Proofs.YtkpholfdjgdjnaaGreatDoor
open Go Go.RowKit Go.Proofs Go.Shelf
set_option maxRecDepth 100000 in
set_option maxHeartbeats 1000000 in
theorem sum_calls (w : World) (g n cap : Nat) (hn : n ≤ 100) (hc : ∀ j, j < n → ∃ x : Int, w.cell? ⟨g, j, none⟩ = some (.int .u8 x)) :
    Calls Tryz.prog 149 #[.slice (some ⟨g, 0, none⟩) n cap] w fun e w' => (∃ z : Int, e = .returned (.int .u32 z)) ∧ w' = w := by
  have HC := Lib.hid hc
  clear hc
  go_enter Tryz.func149, Tryz.ntmps149
  go_wp2_with fail
  go_loop [3, 4] (fun s i => (∃ z : Int, s = .int .u32 z) ∧ ∃ k : Nat, i = .int .i64 k ∧ k ≤ n) (fun _ i => n - (intOf i).toNat)
  case atStart => exact ⟨⟨_, rfl⟩, 0, rfl, by omega⟩
  case round =>
    obtain ⟨⟨z, rfl⟩, k, rfl, hk⟩ := hrel
    by_cases hlt : k < n
    · obtain ⟨x, hx⟩ := HC.out k hlt
      go_wp2_with fail
      go_loop [3, 5] (fun s i => (∃ z : Int, s = .int .u32 z) ∧ ∃ m : Nat, i = .int .i64 m ∧ m ≤ 8) (fun _ i => 8 - (intOf i).toNat)
      case atStart => exact ⟨⟨_, rfl⟩, 0, rfl, by omega⟩
      case round =>
        obtain ⟨⟨z2, rfl⟩, m, rfl, hm⟩ := hrel
        by_cases hlt2 : m < 8
        · go_wp2_with fail
          all_goals
            go_round
            case rel => exact ⟨⟨_, rfl⟩, m + 1, by go_num, by omega⟩
            case measure => simp [intOf]; omega
        · go_wp2_with fail
          go_round
          case rel => exact ⟨⟨_, rfl⟩, k + 1, by go_num, by omega⟩
          case measure => simp [intOf]; omega
    · go_wp2_with fail
      go_ret
      exact ⟨⟨_, rfl⟩, rfl⟩
def Bytes (w : World) (base : Nat) (v : Value) (n : Nat) : Prop := ∃ xs : List Value, w.ownsRow base 5 1 v n xs ∧ ∀ u ∈ xs, ∃ x : Int, u = .int .u8 x
theorem Bytes.ext {w w' : World} {base : Nat} {v : Value} {n : Nat} (h : Bytes w base v n) (e : Ext [] w w') : Bytes w' base v n := by
  obtain ⟨xs, h1, h2⟩ := h
  exact ⟨xs, ownsRow_ext h1 e (by simp), h2⟩
theorem Bytes.cells {w : World} {base g n cap : Nat} (h : Bytes w base (.slice (some ⟨g, 0, none⟩) n cap) n) : ∀ j, j < n → ∃ x : Int, w.cell? ⟨g, j, none⟩ = some (.int .u8 x) := by
  obtain ⟨xs, h1, h2⟩ := h
  intro j hj
  have hl := h1.1
  have hc := h1.cellAt j (by omega)
  rw [List.getElem?_eq_getElem (by omega)] at hc
  obtain ⟨x, hx⟩ := h2 _ (List.getElem_mem (by omega : j < xs.length))
  exact ⟨x, by rw [hc, hx]⟩
theorem Bytes.shape {w : World} {base n : Nat} {v : Value} (h : Bytes w base v n) (hn : 0 < n) : ∃ g cap, v = .slice (some ⟨g, 0, none⟩) n cap := by
  obtain ⟨xs, h1, h2⟩ := h
  obtain ⟨g, cap, rfl, _⟩ := h1.form hn
  exact ⟨g, cap, rfl⟩
end Go.Proofs.YtkpholfdjgdjnaaGreatDoor
namespace Go.Proofs.YtkpholfdjgdjnaaGreatDoor
open Go Go.RowKit Go.Proofs Go.Shelf
theorem record0_calls (w : World) : Calls Tryz.prog 171 #[.int .i64 0] w fun e w' => e = .returned (.tuple #[.slice none 0 0, .slice none 0 0]) ∧ w' = w := by
  go_enter Tryz.func171, Tryz.ntmps171
  go_wp2_with fail
  go_ret2
  exact ⟨rfl, rfl⟩
theorem u8_append {xs ys : List Value} (h : ∀ u ∈ xs, ∃ x : Int, u = .int .u8 x) (k : ∀ u ∈ ys, ∃ x : Int, u = .int .u8 x) : ∀ u ∈ xs ++ ys, ∃ x : Int, u = .int .u8 x := fun u hu => (List.mem_append.1 hu).elim (h u) (k u)
set_option maxRecDepth 100000 in
set_option maxHeartbeats 2000000 in
theorem record1_calls (w : World) : Calls Tryz.prog 171 #[.int .i64 1] w fun e w' => ∃ v1 v2, e = .returned (.tuple #[v1, v2]) ∧ Bytes w' w.heap.size v1 16 ∧ Bytes w' w.heap.size v2 16 ∧ Ext [] w w' := by
  obtain ⟨i0, hi, hz0, hz1, hz2⟩ := info_parts Tryz.info5
  have kc := fun (w : World) (C : Array Value) (n c : Nat) => Lib.run_convert_bytes_const (P := Tryz.prog) w 103 5 C n c Tryz.underlying103 Tryz.underlying5
  go_enter Tryz.func171, Tryz.ntmps171
  go_wp2_with fail
  go_loopw [4, 5] (fun v i wr => ∃ k : Nat, i = .int .i64 k ∧ k ≤ 8 ∧ Ext [] w wr ∧ Bytes wr w.heap.size v k) (fun _ i _ => 8 - (intOf i).toNat)
  case atStart => exact ⟨0, rfl, by omega, Ext.refl _ _, [], World.ownsRow_nil _ _ _ _, by simp⟩
  case round =>
    obtain ⟨k, rfl, hk, E, xs, row, hu⟩ := hrel
    by_cases hlt : k < 8
    · have hsz := E.size
      go_wp2_with (at_builtin; refine wpList_append_lies _ rfl (.tmp 19) (.tmp 25) 103 rfl w.heap.size 5 i0 _ 1 1 Tryz.underlying103 hi hz0 hz1 hz2 rfl (by decide) _ _ _ rfl (row.alloc _) ⟨wr.heap.size, 0, none⟩ 1 1 [.int .u8 ((1 : Int) / 2 ^ (8 * k) % 256)] rfl rfl ?c1 ?c2 (by decide) ?c3 ?c4 ?c5 _ rfl ?_; (case c1 => exact cells_new _ _ _); (case c2 => simp [Value.oneCell']); (case c3 => unfold maxLen; omega); (case c4 => omega); (case c5 => simp; omega); intro g cap w1 hown hgrow _ _)
      go_roundw
      case rel => exact ⟨k + 1, by go_num, by omega, (E.alloc _).grown hgrow (by intro b hb; exact .inr ((row.lt b hb).1)), _, hown, u8_append hu (by simp)⟩
      case measure => simp [intOf]; omega
    · obtain rfl : k = 8 := by omega
      obtain ⟨wo, rfl⟩ : ∃ wo : World, wo = wr := ⟨_, rfl⟩
      obtain ⟨gN, capN, rfl, hgN, hgl⟩ := row.form (by decide)
      have hsz := E.size
      have hlen := row.1
      have hn0 : ∀ W, Ext [] wo W → ∀ j u, xs[j]? = some u → W.cell? ((⟨gN, 0, none⟩ : Addr).add j) = some u := fun W hW j u hj => by
        rw [add_at, Nat.zero_add]
        exact hW.keeps (by rw [row.cellAt j (by have := getElem?_lt hj; omega)]; exact hj) (by simp)
      have hone : ∀ u ∈ xs, u.oneCell' = true := fun u h => by obtain ⟨x, rfl⟩ := hu u h; rfl
      have HN := Lib.hid hn0
      have HO := Lib.hid hone
      have HU := Lib.hid hu
      clear hn0 hone hu
      have Hrow := Lib.hid row
      clear row
      go_wp2_with (first
        | (at_builtin; refine wpList_append_lies _ rfl (.tmp 27) (.tmp 28) 103 rfl wo.heap.size 5 i0 _ 1 1 Tryz.underlying103 hi hz0 hz1 hz2 rfl (by decide) _ _ _ rfl (World.ownsRow_nil _ _ _ _) ⟨gN, 0, none⟩ 8 capN xs rfl hlen (HN.out _ (Ext.refl _ _)) HO.out (by decide) (by decide) (by decide) (Nat.le_refl _) _ rfl ?_; intro g1 cap1 w1 hown1 hgrow1 _ hl1; have F1 : Ext [] wo w1 := (Ext.refl [] wo).grown hgrow1 (by intro k hk; cases hk); have z1 := F1.size)
        | (at_builtin; refine wpList_append_lies _ rfl (.tmp 30) (.tmp 32) 103 rfl wo.heap.size 5 i0 _ 1 1 Tryz.underlying103 hi hz0 hz1 hz2 rfl (by decide) _ _ _ rfl (hown1.alloc _) ⟨w1.heap.size, 0, none⟩ 8 8 [.int .u8 69, .int .u8 68, .int .u8 68, .int .u8 89, .int .u8 66, .int .u8 79, .int .u8 79, .int .u8 84] rfl rfl (World.news_of_block (World.alloc_heap_new _ _)) (by simp [Value.oneCell']) (by decide) (by decide) (by decide) ?c5 _ rfl ?_; (case c5 => simp; omega); intro g2 cap2 w2 hown2 hgrow2 hat2 hl2; have F2 : Ext [] wo w2 := (F1.alloc _).grown hgrow2 (by intro k hk; exact .inr (hown1.lt k hk).1); have z2 := F2.size; have hB2 : Bytes w2 wo.heap.size (.slice (some ⟨g2, 0, none⟩) 16 cap2) 16 := ⟨_, hown2, u8_append (u8_append (by simp) HU.out) (by simp)⟩; have hS := Lib.hid hB2.cells)
        | (go_at_call 149; refine (sum_calls _ g2 16 cap2 (by decide) hS.out).mono ?_; rintro e w' ⟨⟨z, rfl⟩, hw⟩; obtain rfl : w2 = w' := hw.symm)
        | (at_builtin; refine wpList_append_lies _ rfl (.tmp 48) (.tmp 49) 103 rfl w2.heap.size 5 i0 _ 1 1 Tryz.underlying103 hi hz0 hz1 hz2 rfl (by decide) _ _ _ rfl (ownsRow_lit w2 w2.heap.size 5 1 4 _ (Nat.le_refl _) (by decide) rfl) ⟨gN, 0, none⟩ 8 capN xs rfl hlen (HN.out _ (F2.alloc _)) HO.out (by decide) (by decide) (by decide) ?c5 _ rfl ?_; (case c5 => simp); intro g3 cap3 w3 hown3 hgrow3 hat3 hl3; have F3 : Ext [] w2 w3 := ((Ext.refl [] w2).alloc _).grown hgrow3 (by intro k hk; cases hk; exact .inr (Nat.le_refl _)); have z3 := F3.size)
        | (at_builtin; refine wpList_append_lies _ rfl (.tmp 52) (.tmp 53) 103 rfl w2.heap.size 5 i0 _ 1 1 Tryz.underlying103 hi hz0 hz1 hz2 rfl (by decide) _ _ _ rfl (hown3.alloc _) ⟨w3.heap.size, 0, none⟩ 4 4 [.int .u8 0, .int .u8 0, .int .u8 0, .int .u8 0] rfl rfl (cells_new _ _ _) (by simp [Value.oneCell']) (by decide) (by decide) (by decide) ?c5 _ rfl ?_; (case c5 => simp; omega); intro g4 cap4 w4 hown4 hgrow4 hat4 hl4; have F4 : Ext [] w2 w4 := (F3.alloc _).grown hgrow4 (by intro k hk; exact .inr (hown3.lt k hk).1)))
      go_ret2
      obtain ⟨ys, hy1, hy2⟩ := hB2.ext F4
      exact ⟨_, _, rfl, ⟨ys, ownsRow_base hy1 (by omega), hy2⟩, ⟨_, ownsRow_base hown4 (by omega), u8_append (u8_append (by simp) HU.out) (by simp)⟩, E.trans (F2.trans F4)⟩
end Go.Proofs.YtkpholfdjgdjnaaGreatDoor
namespace Go.Proofs.YtkpholfdjgdjnaaGreatDoor
open Go Go.RowKit Go.Proofs Go.Shelf
theorem Disk.one {w : World} {d b : Nat} {cs : List Value} {n : Int} (h : Disk w d b cs n) : ∀ u ∈ cs, u.oneCell' = true := fun u hu => by obtain ⟨x, rfl⟩ := h.u8 u hu; rfl
def Bytes8 (w : World) (base : Nat) (v : Value) (n : Nat) : Prop := ∃ xs : List Value, w.ownsRow base 5 1 v n xs ∧ ∀ u ∈ xs, ∃ x : Int, u = .int .u8 x
theorem set_post {w W1 : World} {d b : Nat} {cs : List Value} {c : List Value} {t : TypeId} {new : Array Value} (hg : w.heap[b]? = some (.cells cs.toArray 5 (0, 0))) (hd : Blk w d c t) (hne : d ≠ b) (hW : W1 = w.setRow b new) :
    Ext [b] w W1 ∧ Blk W1 d c t ∧ Blk W1 b new.toList 5 := by
  subst hW
  refine ⟨⟨rfl, rfl, rfl, by simp [World.setRow], fun k hk hkb => setRow_other w b k _ (by simp at hkb; omega)⟩, ?_, ?_⟩
  · unfold Blk at *
    rw [setRow_other w b d _ (by omega)]
    exact hd
  · unfold Blk
    rw [setRow_heap w b _ _ 5 _ hg]
set_option maxRecDepth 100000 in
set_option maxHeartbeats 1000000 in
theorem write_calls (w : World) (d b : Nat) (cs : List Value) (n : Int) (s gB capB base : Nat) (hs : s = 0 ∨ s = 1) (h : Disk w d b cs n) (hB : Bytes w base (.slice (some ⟨gB, 0, none⟩) 16 capB) 16) (hn : n ≤ 10) :
    Calls Tryz.prog 172 #[.pointer (some ⟨d, 0, none⟩), .int .i64 s, .slice (some ⟨gB, 0, none⟩) 16 capB] w fun e w' => e = .returned (.int .i64 0) ∧ Ext [d, b] w w' ∧ ∃ cs', Disk w' d b cs' (n + 1) := by
  obtain ⟨xs, hx1, hx2⟩ := hB
  have hxl := hx1.1
  have c0 := h.blk.cell 0
  have c1 := h.blk.cell 1
  have c2 := h.blk.cell 2
  have c3 := h.blk.cell 3
  have c5 := h.blk.cell 5
  have f5 := h.blk.frozen 5
  simp only [List.getElem?_cons_zero, List.getElem?_cons_succ] at c0 c1 c2 c3 c5
  have hsrc : ∀ j u, xs[j]? = some u → w.cell? ((⟨gB, 0, none⟩ : Addr).add j) = some u := fun j u hj => by
    rw [add_at, Nat.zero_add, hx1.cellAt j (by have := getElem?_lt hj; omega)]
    exact hj
  have hone : ∀ u ∈ xs, u.oneCell' = true := fun u hu => by obtain ⟨x, rfl⟩ := hx2 u hu; rfl
  have HS := Lib.hid hsrc
  have HO := Lib.hid hone
  have HD := Lib.hid h
  have hg : Hid (w.heap[b]? = some (.cells cs.toArray 5 (0, 0))) := h.row
  have hlen := h.len
  have hne := h.ne
  have hn0 := h.n0
  clear hsrc hone h
  rcases hs with rfl | rfl
  · go_enter Tryz.func172, Tryz.ntmps172
    go_wp2_with (first
      | (refine wpList_copy_own rfl (.tmp 61) (.tmp 62) 103 103 rfl 5 Tryz.underlying103 (by kernel_rfl) b 0 64 64 ⟨gB, 0, none⟩ 16 capB rfl rfl cs.toArray 5 hg.out xs (by rw [hxl]; rfl) HS.out (by simp; omega) HO.out ?_; generalize hW : w.setRow b _ = W1; obtain ⟨EW, BD, BB⟩ := set_post hg.out HD.out.blk hne hW.symm; have e5 := BD.cell 5; have g5 := BD.frozen 5; simp only [List.getElem?_cons_zero, List.getElem?_cons_succ] at e5)
      | (go_at_call 205; refine (sectors_calls _ d b cs n HD.out).mono ?_; rintro e w' ⟨rfl, hw⟩; obtain rfl : w = w' := hw.symm))
    go_ret
    have EF : Ext [d] W1 (W1.setCell ⟨d, 5, none⟩ (.int .i64 (n + 1))) := (Ext.refl [d] W1).setCell _ (by simp) _
    refine ⟨rfl, (EW.mono (by simp)).trans (EF.mono (by simp)), _, BD.set 5 (.int .i64 (n + 1)), BB.ext EF (by simpa using fun h => hne h.symm), ?_, ?_, hne, by omega⟩
    · simp [hlen, hxl]
    · intro u hu
      have hu' : u ∈ cs ∨ u ∈ xs := by
        simp only [List.mem_append] at hu
        rcases hu with h | h | h
        · exact .inl (List.mem_of_mem_take h)
        · exact .inr h
        · exact .inl (List.mem_of_mem_drop h)
      exact hu'.elim (HD.out.u8 u) (hx2 u)
  · go_enter Tryz.func172, Tryz.ntmps172
    go_wp2_with (first
      | (refine wpList_copy_own rfl (.tmp 61) (.tmp 62) 103 103 rfl 5 Tryz.underlying103 (by kernel_rfl) b 16 48 48 ⟨gB, 0, none⟩ 16 capB rfl rfl cs.toArray 5 hg.out xs (by rw [hxl]; rfl) HS.out (by simp; omega) HO.out ?_; generalize hW : w.setRow b _ = W1; obtain ⟨EW, BD, BB⟩ := set_post hg.out HD.out.blk hne hW.symm; have e5 := BD.cell 5; have g5 := BD.frozen 5; simp only [List.getElem?_cons_zero, List.getElem?_cons_succ] at e5)
      | (go_at_call 205; refine (sectors_calls _ d b cs n HD.out).mono ?_; rintro e w' ⟨rfl, hw⟩; obtain rfl : w = w' := hw.symm))
    go_ret
    have EF : Ext [d] W1 (W1.setCell ⟨d, 5, none⟩ (.int .i64 (n + 1))) := (Ext.refl [d] W1).setCell _ (by simp) _
    refine ⟨rfl, (EW.mono (by simp)).trans (EF.mono (by simp)), _, BD.set 5 (.int .i64 (n + 1)), BB.ext EF (by simpa using fun h => hne h.symm), ?_, ?_, hne, by omega⟩
    · simp [hlen, hxl]
    · intro u hu
      have hu' : u ∈ cs ∨ u ∈ xs := by
        simp only [List.mem_append] at hu
        rcases hu with h | h | h
        · exact .inl (List.mem_of_mem_take h)
        · exact .inr h
        · exact .inl (List.mem_of_mem_drop h)
      exact hu'.elim (HD.out.u8 u) (hx2 u)
set_option maxRecDepth 100000 in
set_option maxHeartbeats 1000000 in
theorem stands_calls (w : World) (g o cap : Nat) (hc : ∀ j, j < 32 → w.cell? ⟨g, o + j, none⟩ = some (.int .u8 0)) :
    Calls Tryz.prog 206 #[.slice (some ⟨g, o, none⟩) 32 cap] w fun e w' => e = .returned (.int .i64 0) ∧ Ext [] w w' := by
  obtain ⟨Z, hZ⟩ : ∃ Z : ByteArray, Z = ⟨(List.replicate 32 (0 : UInt8)).toArray⟩ := ⟨_, rfl⟩
  have hcv : (convert 103 9 (.slice (some ⟨g, o, none⟩) 32 cap)).run Tryz.prog w = .ok (.string Z) w := by
    rw [hZ]
    refine run_convert_bytes_back w 103 9 5 ⟨g, o, none⟩ cap (List.replicate 32 (0 : UInt8)) Tryz.underlying103 Tryz.underlying5 Tryz.underlying9 ?_
    intro j hj
    have hj' : j < 32 := hj
    rw [add_at, hc j hj', List.getElem_replicate]
    rfl
  have hneq : (((⟨#[]⟩ : ByteArray) ++ (⟨#[]⟩ : ByteArray)).toList == Z.toList) = false := by
    rw [str_eq, hZ]
    decide
  clear hZ
  have HC := Lib.hid hc
  clear hc
  have hnil := Lib.run_convert_nil_bytes (P := Tryz.prog) w 103 9 5 0 Tryz.underlying103 Tryz.underlying5 Tryz.underlying9
  go_enter Tryz.func206, Tryz.ntmps206
  go_wp2_with fail
  go_loop [3, 4] (fun s i => s = .int .u64 0 ∧ ∃ k : Nat, i = .int .i64 k ∧ k ≤ 8) (fun _ i => 8 - (intOf i).toNat)
  case atStart => exact ⟨rfl, 0, rfl, by omega⟩
  case round =>
    obtain ⟨rfl, k, rfl, hk⟩ := hrel
    by_cases hlt : k < 8
    · have hx := HC.out k (by omega)
      go_wp2_with fail
      go_round
      case rel => exact ⟨by simp, k + 1, by go_num, by omega⟩
      case measure => simp [intOf]; omega
    · go_wp2_with (go_at_call 171; refine (record0_calls _).mono ?_; rintro e w' ⟨rfl, hw⟩; obtain rfl : w = w' := hw.symm)
      go_ret
      exact ⟨rfl, Ext.refl _ _⟩
theorem row_cap {w : World} {base : Nat} {e : TypeId} {g n cap : Nat} {xs : List Value} (h : w.ownsRow base e 1 (.slice (some ⟨g, 0, none⟩) n cap) n xs) : n ≤ cap ∧ cap ≤ maxLen := by
  rcases h.2 with ⟨h1, _⟩ | ⟨g', cap', cur, h1, _, _, h2, h3, _⟩
  · cases h1
  · cases h1
    exact ⟨h2, h3⟩
set_option maxRecDepth 100000 in
set_option maxHeartbeats 1000000 in
theorem slots_calls (w : World) (d b : Nat) (n : Int) (h : Disk w d b zeros64 n) :
    Calls Tryz.prog 170 #[.pointer (some ⟨d, 0, none⟩)] w fun e w' => e = .returned (.tuple #[.int .i64 0, .int .i64 0, .int .i64 0]) ∧ Ext [] w w' := by
  have HD := Lib.hid h
  clear h
  go_enter Tryz.func170, Tryz.ntmps170
  go_wp2_with (first
    | (go_at_call 204; refine (dead_calls _ d b _ n HD.out).mono ?_; rintro e w' ⟨rfl, hw⟩; obtain rfl : w = w' := hw.symm)
    | (go_at_call 205; refine (sectors_calls _ d b _ n HD.out).mono ?_; rintro e w' ⟨rfl, hw⟩; obtain rfl : w = w' := hw.symm)
    | (go_at_call 85; refine (image_calls _ d b _ n HD.out).mono ?_; rintro e w1 ⟨g, cap, rfl, row, E1⟩; have hcap := row_cap row))
  have HZ : Hid (∀ W, Ext [] w1 W → ∀ j, j < 64 → W.cell? ⟨g, j, none⟩ = some (.int .u8 0)) := fun W hW j hj => by
    refine hW.keeps ?_ (by simp)
    rw [row.cellAt j (by omega)]
    unfold zeros64
    rw [List.getElem?_replicate, if_pos hj]
  have h32 : ¬ cap = 32 := by omega
  have k1 : (32 : Int) ≤ (cap : Int) := by omega
  have k2 : (64 : Int) ≤ (cap : Int) := by omega
  have F1 : Ext [] w1 w1 := Ext.refl _ _
  first
    | go_region_held3 (fun w' => Ext [] w1 w') (first | assumption | ((repeat (first | exact Ext.refl _ _ | assumption | with_reducible refine Ext.alloc ?_ _ | with_reducible refine Ext.drewN ?_ _ | with_reducible refine Ext.drew ?_)); done))
        (first
          | (go_at_call 206; refine (stands_calls _ g _ _ ?hc).mono ?_; (case hc => (intro j hj; exact HZ.out _ (by (repeat (first | exact Ext.refl _ _ | assumption | with_reducible refine Ext.alloc ?_ _ | with_reducible refine Ext.drewN ?_ _ | with_reducible refine Ext.drew ?_))) _ (by omega))); rintro e w5 ⟨rfl, E5⟩; have F5 : Ext [] w1 w5 := Ext.trans (by (repeat (first | exact Ext.refl _ _ | assumption | with_reducible refine Ext.alloc ?_ _ | with_reducible refine Ext.drewN ?_ _ | with_reducible refine Ext.drew ?_))) E5))
    | fail
  all_goals go_wp2_with fail
  all_goals
    refine bodyPost_ret (v := .tuple #[.int .i64 0, .int .i64 0, .int .i64 0]) (by simp [results, Tryz.results170, go_sem]) rfl ?_
    exact ⟨rfl, E1.trans (by (repeat (first | exact Ext.refl _ _ | assumption | with_reducible refine Ext.alloc ?_ _ | with_reducible refine Ext.drewN ?_ _ | with_reducible refine Ext.drew ?_)))⟩
end Go.Proofs.YtkpholfdjgdjnaaGreatDoor
