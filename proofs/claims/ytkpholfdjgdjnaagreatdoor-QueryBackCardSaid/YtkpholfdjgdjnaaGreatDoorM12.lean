/- Texts of the claim, joined: UH U5 U6. -/
import Derived.Deep.RegionHeld3
import Derived.Test.YtkpholfdjgdjnaaGreatDoorM11
import Derived.Deep.AppendLies
import Derived.Deep.LoopGhost
import Derived.Deep.DeepCutAuto
namespace Go.Proofs.YtkpholfdjgdjnaaGreatDoor
open Go
theorem wpAnyH_mono {P : Program} {md : Region.Mode} {ops : Array Oper} {Q : Exit → Act → World → Prop} {S S2 : World → Prop} (hS : ∀ w, S2 w → S w) : ∀ (fuel : Nat) (listed : Array Bool) (a : Act) (w : World), wpAnyH P md ops Q S2 fuel listed a w → wpAnyH P md ops Q S fuel listed a w
  | 0, _, _, _, h => h
  | fuel + 1, _, _, _, h => ⟨h.1, fun i hi => wpOp_mono (fun _ _ h' => ⟨hS _ h'.1, wpAnyH_mono hS fuel _ _ _ h'.2⟩) (h.2 i hi)⟩
end Go.Proofs.YtkpholfdjgdjnaaGreatDoor
namespace Go.Proofs.YtkpholfdjgdjnaaGreatDoor
open Go Go.RowKit Go.Proofs Go.Shelf
abbrev strs (w : World) (base : Nat) (v : Value) (l : List ByteArray) : Prop := w.ownsRow base 9 1 v l.length (l.map Value.string)
theorem after_append {wo wb W w8 : World} {row : Option Nat} {nb : Nat} {v0 v1 v2 v3 : Value} (hg : W.grownBy w8 row) (FW : Ext [] wb W) (e0 : wb.cell? ⟨nb, 0, none⟩ = some v0) (e1 : wb.cell? ⟨nb, 1, none⟩ = some v1) (e2 : wb.cell? ⟨nb, 2, none⟩ = some v2) (e3 : wb.cell? ⟨nb, 3, none⟩ = some v3)
    (E5 : Ext [] wo wb) (hlt : ∀ k, row = some k → wo.heap.size ≤ k ∧ k < nb) : w8.cell? ⟨nb, 0, none⟩ = some v0 ∧ w8.cell? ⟨nb, 1, none⟩ = some v1 ∧ w8.cell? ⟨nb, 2, none⟩ = some v2 ∧ w8.cell? ⟨nb, 3, none⟩ = some v3 ∧ Ext [] wo w8 := by
  have g0 := FW.keeps e0 (by simp)
  have g1 := FW.keeps e1 (by simp)
  have g2 := FW.keeps e2 (by simp)
  have g3 := FW.keeps e3 (by simp)
  have hnl := cell_lt g0
  have hnn : some nb ≠ row := fun h => Nat.lt_irrefl _ ((hlt nb h.symm).2)
  exact ⟨(hg.cell_far ⟨nb, 0, none⟩ hnl hnn).trans g0, (hg.cell_far ⟨nb, 1, none⟩ hnl hnn).trans g1, (hg.cell_far ⟨nb, 2, none⟩ hnl hnn).trans g2, (hg.cell_far ⟨nb, 3, none⟩ hnl hnn).trans g3, (E5.trans FW).grown hg (fun k hk => .inr (hlt k hk).1)⟩
theorem far_append {wo W w8 : World} {row : Option Nat} {nb tb i : Nat} {v : Value} (hg : W.grownBy w8 row) (ht : W.cell? ⟨tb, i, none⟩ = some v) (hlt : ∀ k, row = some k → wo.heap.size ≤ k ∧ k < nb) (h : nb ≤ tb) : w8.cell? ⟨tb, i, none⟩ = some v :=
  (hg.cell_far ⟨tb, i, none⟩ (cell_lt ht) (fun e => by have := (hlt tb e.symm).2; omega)).trans ht
set_option maxRecDepth 100000 in
set_option maxHeartbeats 4000000 in
theorem pprint_fit (q : QI) (vC vW : Value) (w : World) (henv : Env w) (h : QAt w vC vW q) (hf : fitI q = true) :
    Calls Tryz.prog 14 #[qV vC vW q] w fun e w' => e = .returned (.string (prt4 q)) ∧ Ext [] w w' := by
  obtain ⟨i0, hi, hz0, hz1, hz2⟩ := info_parts Tryz.info9
  obtain ⟨AC, capC, hvC, hnC, getC⟩ := Row.at (sz := 2) (fun _ => rfl) (by decide) h.rowC rfl
  obtain ⟨AW, capW, hvW, hnW, getW⟩ := Row.at (sz := 4) (fun _ => rfl) (by decide) h.rowW rfl
  have hnums := h.nums
  have HQ := Lib.hid h
  have HF := Lib.hid hf
  obtain ⟨hh, hfc, hfd⟩ := fit_parts hf
  clear h hf
  obtain ⟨cols, whr, srt, lim⟩ := q
  unfold fitHead at hh
  obtain ⟨a1, a2, a3, a4, a5, a6, a7⟩ := hh
  unfold qV
  dsimp only at *
  subst hvC hvW
  have E1 : Ext [] w (w.alloc (.cells #[.slice AC cols.length capC, .slice AW whr.length capW, .int .i64 srt, .int .i64 lim] 25)) := (Ext.refl [] w).alloc _
  have B1 := Blk.new w [.slice AC cols.length capC, .slice AW whr.length capW, .int .i64 srt, .int .i64 lim] 25
  have GC := Lib.hid getC
  have GW := Lib.hid getW
  have HN := Lib.hid hnums
  have HC := Lib.hid hfc
  have HD := Lib.hid hfd
  clear getC getW hnums hfc hfd
  go_enter Tryz.func14, Tryz.ntmps14
  go_wp2_with (go_at_call 12; refine (pfit_calls ⟨cols, whr, srt, lim⟩ _ _ _ (HQ.out.keep E1)).mono ?_; rw [HF.out]; rintro e w1 ⟨rfl, E2⟩; have E3 : Ext [] w w1 := E1.trans E2; have B3 := B1.ext E2 (by simp); have c0 := B3.cell 0; simp only [List.getElem?_cons_zero] at c0)
  clear E1 B1 E2
  go_loopw [3, 16] (fun v i wr => ∃ k : Nat, i = .int .i64 k ∧ k ≤ cols.length ∧ Ext [] w1 wr ∧ strs wr w1.heap.size v ((cols.take k).map colT)) (fun _ i _ => cols.length - (intOf i).toNat)
  case atStart => exact ⟨0, rfl, by omega, Ext.refl _ _, World.ownsRow_nil _ _ _ _⟩
  case round =>
    obtain ⟨k, rfl, hk, E, row⟩ := hrel
    by_cases hlt : k < cols.length
    · obtain ⟨c, hc⟩ : ∃ c, cols[k]? = some c := ⟨_, List.getElem?_eq_getElem hlt⟩
      obtain ⟨b, o, rfl, hbl, hcell⟩ := GC.out wr (E3.trans E) k c hc
      have d0 := hcell 0 (by decide)
      have d1 := hcell 1 (by decide)
      have Hc := Lib.hid hc
      clear hc hcell
      simp only [colIV, List.getElem?_cons_zero, List.getElem?_cons_succ, Option.getD_some, Nat.add_zero] at d0 d1
      have hop := fitC_op (HC.out c (List.mem_of_getElem? Hc.out))
      have hlen : ((cols.take k).map colT).length = k := by simp; omega
      have hsz := E.size
      have Hrow := Lib.hid row
      clear row
      go_wp2_with (first
        | (go_at_call 40; refine (column_calls c _ hop.1 hop.2.1 hop.2.2).mono ?_; rintro e w5 ⟨rfl, E5⟩; have E6 : Ext [] wr w5 := ((Ext.refl [] wr).alloc _).trans E5; have row5 := ownsRow_ext Hrow.out E6 (by simp); have hsz5 := E6.size)
        | (at_builtin; refine wpList_append_own _ rfl _ _ 91 rfl w1.heap.size 9 i0 _ 1 16 Tryz.underlying91 hi hz0 hz1 hz2 rfl (by decide) _ _ _ rfl (row5.alloc _) ⟨w5.heap.size, 0, none⟩ 1 1 [.string (colT c)] rfl rfl ?c1 ?c2 ?c3 ?c4 ?c5 ?_; (case c1 => exact cells_new _ _ _); (case c2 => simp [Value.oneCell']); (case c3 => unfold maxLen; omega); (case c4 => omega); (case c5 => simp; omega); intro v' w6 hown' hgrow _))
      go_roundw
      case rel =>
        refine ⟨k + 1, by go_num, by omega, ((E.trans E6).alloc _).grown hgrow (by intro b hb; exact .inr ((row5.lt b hb).1)), ?_⟩
        unfold strs
        rw [take_snoc Hc.out]
        simpa using hown'
      case measure => simp [intOf]; omega
    · obtain rfl : k = cols.length := by omega
      obtain ⟨wo, rfl⟩ : ∃ wo : World, wo = wr := ⟨_, rfl⟩
      rw [List.take_length] at row
      have B4 := B3.ext E (by simp)
      have c1 := B4.cell 1
      simp only [List.getElem?_cons_zero, List.getElem?_cons_succ] at c1
      have E4 : Ext [] w wo := E3.trans E
      have hlc : (cols.map colT).length = cols.length := List.length_map _
      unfold strs at row
      rw [hlc] at row
      obtain ⟨AS, capS, rfl⟩ := ownsRow_shape row
      have Hrow := Lib.hid row
      clear row
      go_wp2_with fail
      go_loopw [4, 29] (fun v i W => ∃ k : Nat, i = .int .i64 k ∧ k ≤ whr.length ∧ Ext [] wo W ∧ strs W wo.heap.size v ((whr.take k).map condT)) (fun _ i _ => whr.length - (intOf i).toNat)
      case atStart => exact ⟨0, rfl, by omega, Ext.refl _ _, World.ownsRow_nil _ _ _ _⟩
      case round =>
        obtain ⟨k2, rfl, hk2, E5, row⟩ := hrel
        by_cases hlt2 : k2 < whr.length
        · obtain ⟨c, hc⟩ : ∃ c, whr[k2]? = some c := ⟨_, List.getElem?_eq_getElem hlt2⟩
          obtain ⟨b, o, rfl, hbl, hcell⟩ := GW.out _ (E4.trans E5) k2 c hc
          have d0 := hcell 0 (by decide)
          have d1 := hcell 1 (by decide)
          have d2 := hcell 2 (by decide)
          have d3 := hcell 3 (by decide)
          have Hc := Lib.hid hc
          clear hc hcell
          simp only [condIV, List.getElem?_cons_zero, List.getElem?_cons_succ, Option.getD_some, Nat.add_zero] at d0 d1 d2 d3
          have hop := fitD_op (HD.out c (List.mem_of_getElem? Hc.out))
          have hop2 := fitC_op hop.1
          have hs1 := colT_size hop.1
          have hnum := HN.out c (List.mem_of_getElem? Hc.out)
          have hs3 := itoaB_size hnum
          obtain ⟨m, hm⟩ : ∃ m : Nat, c.cmp = m := ⟨c.cmp.toNat, by omega⟩
          have hm7 : m < 7 := by omega
          have hs2 := cmpW_size m hm7
          have ht := tabV_get cmpW m hm7
          have hlen : ((whr.take k2).map condT).length = k2 := by simp; omega
          have Hrow2 := Lib.hid row
          have HnumH := Lib.hid hnum
          have HT := Lib.hid (show condT c = colT c.col ++ bsp ++ (cmpW[m]?.getD ByteArray.empty) ++ bsp ++ itoaB c.num by unfold condT; rw [hm]; rfl)
          clear row hnum
          rw [hm] at d2
          go_upto_region 12 with fail
          obtain ⟨wb, hwb⟩ : ∃ wb, wb = wr.alloc (Obj.cells #[.int .i64 c.col.op, .string c.col.name, .int .i64 m, .int .i64 c.num] 59) := ⟨_, rfl⟩
          have Bc : Blk wb wr.heap.size [.int .i64 c.col.op, .string c.col.name, .int .i64 m, .int .i64 c.num] 59 := by rw [hwb]; exact Blk.new _ [.int .i64 c.col.op, .string c.col.name, .int .i64 m, .int .i64 c.num] 59
          have Eb : Ext [] wr wb := by rw [hwb]; exact (Ext.refl [] _).alloc _
          have Hlt := Lib.hid (fun k hk => Hrow2.out.lt k hk)
          have Hrowb := Lib.hid (ownsRow_ext Hrow2.out Eb (by simp))
          have HEb := Lib.hid (henv.ext ((E4.trans E5).trans Eb))
          have E5b := E5.trans Eb
          have hszb : wo.heap.size ≤ wb.heap.size := E5b.size
          rw [← hwb]
          have e0 := Bc.cell 0
          have e1 := Bc.cell 1
          have e2 := Bc.cell 2
          have e3 := Bc.cell 3
          simp only [List.getElem?_cons_zero, List.getElem?_cons_succ] at e0 e1 e2 e3
          clear hwb Bc d0 d1 d2 d3 hbl
          have hm7i : (m : Int) < 7 := by omega
          have hm0i : (0 : Int) ≤ (m : Int) := by omega
          have k1 : ¬ 9223372036854775807 < (colT c.col).size + 1 := by omega
          have k2' : ¬ 9223372036854775807 < (colT c.col).size + 1 + (cmpW[m]?.getD ByteArray.empty).size := by omega
          have k3 : ¬ 9223372036854775807 < (colT c.col).size + 1 + (cmpW[m]?.getD ByteArray.empty).size + 1 := by omega
          have k4 : ¬ 9223372036854775807 < (colT c.col).size + 1 + (cmpW[m]?.getD ByteArray.empty).size + 1 + (itoaB c.num).size := by omega
          generalize wr.heap.size = nb at *
          refine wp_region_held_drew (S := (fun w' => w'.cell? ⟨nb, 0, none⟩ = some (.int .i64 c.col.op) ∧ w'.cell? ⟨nb, 1, none⟩ = some (.string c.col.name) ∧ w'.cell? ⟨nb, 2, none⟩ = some (.int .i64 m) ∧ w'.cell? ⟨nb, 3, none⟩ = some (.int .i64 c.num))) (by kernel_rfl) ⟨e0, e1, e2, e3⟩ (fun hHeld => ?_)
          refine wpAnyH_take (i := 0) (v := ?_) rfl (by kernel_rfl) (by kernel_rfl) (by kernel_rfl) (fun _ _ _ h => h) (Or.inl ⟨by rfl, ?_⟩) (by assumption) ?_
          rotate_left
          · (intro w hSw; (try dsimp only at hSw); go_split_ands; go_simp; try with_reducible rfl)
          try simp only [Act.put, List.setIfInBounds_toArray, List.set_cons_zero, List.set_cons_succ]
          refine wpAnyH_take (i := 1) (v := ?_) rfl (by kernel_rfl) (by kernel_rfl) (by kernel_rfl) (fun _ _ _ h => h) (Or.inl ⟨by rfl, ?_⟩) (by assumption) ?_
          rotate_left
          · (intro w hSw; (try dsimp only at hSw); go_split_ands; go_simp; try with_reducible rfl)
          try simp only [Act.put, List.setIfInBounds_toArray, List.set_cons_zero, List.set_cons_succ]
          refine wpAnyH_take (i := 2) (v := ?_) rfl (by kernel_rfl) (by kernel_rfl) (by kernel_rfl) (fun _ _ _ h => h) (Or.inl ⟨by rfl, ?_⟩) (by assumption) ?_
          rotate_left
          · (intro w hSw; (try dsimp only at hSw); go_split_ands; go_simp; try with_reducible rfl)
          try simp only [Act.put, List.setIfInBounds_toArray, List.set_cons_zero, List.set_cons_succ]
          refine wpAnyH_take (i := 6) (v := ?_) rfl (by kernel_rfl) (by kernel_rfl) (by kernel_rfl) (fun _ _ _ h => h) (Or.inl ⟨by rfl, ?_⟩) (by assumption) ?_
          rotate_left
          · (intro w hSw; (try dsimp only at hSw); go_split_ands; go_simp; try with_reducible rfl)
          try simp only [Act.put, List.setIfInBounds_toArray, List.set_cons_zero, List.set_cons_succ]
          refine wpAnyH_take (i := 7) (v := ?_) rfl (by kernel_rfl) (by kernel_rfl) (by kernel_rfl) (fun _ _ _ h => h) (Or.inl ⟨by rfl, ?_⟩) (by assumption) ?_
          rotate_left
          · (intro w hSw; (try dsimp only at hSw); go_split_ands; go_simp; try with_reducible rfl)
          try simp only [Act.put, List.setIfInBounds_toArray, List.set_cons_zero, List.set_cons_succ]
          refine wpAnyH_take (i := 12) (v := ?_) rfl (by kernel_rfl) (by kernel_rfl) (by kernel_rfl) (fun _ _ _ h => h) (Or.inl ⟨by rfl, ?_⟩) (by assumption) ?_
          rotate_left
          · (intro w hSw; (try dsimp only at hSw); go_split_ands; go_simp; try with_reducible rfl)
          try simp only [Act.put, List.setIfInBounds_toArray, List.set_cons_zero, List.set_cons_succ]
          refine wpAnyH_take (i := 13) (v := ?_) rfl (by kernel_rfl) (by kernel_rfl) (by kernel_rfl) (fun _ _ _ h => h) (Or.inl ⟨by rfl, ?_⟩) (by assumption) ?_
          rotate_left
          · (intro w hSw; (try dsimp only at hSw); go_split_ands; go_simp; try with_reducible rfl)
          try simp only [Act.put, List.setIfInBounds_toArray, List.set_cons_zero, List.set_cons_succ]
          refine wpAnyH_ready (rs := [3]) (by kernel_rfl) (by simp) ?_
          refine AllReadyH.cons rfl (fun K hK => ?_) AllReadyH.nil
          go_simp
          go_at_call 40
          refine (column_calls c.col _ hop2.1 hop2.2.1 hop2.2.2).mono ?_
          rintro e w5 ⟨rfl, E6⟩
          have F6 : Ext [] wb w5 := Ext.trans (by (repeat (first | exact Ext.refl _ _ | assumption | with_reducible refine Ext.alloc ?_ _ | with_reducible refine Ext.drewN ?_ _ | with_reducible refine Ext.drew ?_))) E6
          refine hK.out _ _ ⟨Ext.keeps (S := []) F6 e0 (by simp), Ext.keeps (S := []) F6 e1 (by simp), Ext.keeps (S := []) F6 e2 (by simp), Ext.keeps (S := []) F6 e3 (by simp)⟩ (fun hHeld2 => ?_)
          clear hK K
          try simp only [Act.put, List.setIfInBounds_toArray, List.set_cons_zero, List.set_cons_succ]
          clear hHeld
          refine wpAnyH_take (i := 4) (v := ?_) rfl (by kernel_rfl) (by kernel_rfl) (by kernel_rfl) (fun _ _ _ h => h) (Or.inl ⟨by rfl, ?_⟩) (by assumption) ?_
          rotate_left
          · (intro w hSw; (try dsimp only at hSw); go_split_ands; go_simp; try with_reducible rfl)
          try simp only [Act.put, List.setIfInBounds_toArray, List.set_cons_zero, List.set_cons_succ]
          refine wpAnyH_ready (rs := [5]) (by kernel_rfl) (by simp) ?_
          refine AllReadyH.cons rfl (fun K hK => ?_) AllReadyH.nil
          go_simp
          go_at_call 41
          refine (compares_calls _).mono ?_
          rintro e w9 ⟨rfl, rfl⟩
          have T5 := tab_cells w5 cmpW 9 7 _ rfl rfl m hm7
          have F9 : Ext [] wb _ := (F6.alloc (.cells (tabV cmpW) 9))
          refine hK.out _ _ ⟨Ext.keeps (S := []) (F6.alloc _) e0 (by simp), Ext.keeps (S := []) (F6.alloc _) e1 (by simp), Ext.keeps (S := []) (F6.alloc _) e2 (by simp), Ext.keeps (S := []) (F6.alloc _) e3 (by simp)⟩ (fun hHeld3 => ?_)
          clear hK K
          try simp only [Act.put, List.setIfInBounds_toArray, List.set_cons_zero, List.set_cons_succ]
          clear hHeld2
          refine wpAnyH_mono (S2 := (fun w' => w'.cell? ⟨nb, 0, none⟩ = some (.int .i64 c.col.op) ∧ w'.cell? ⟨nb, 1, none⟩ = some (.string c.col.name) ∧ w'.cell? ⟨nb, 2, none⟩ = some (.int .i64 m) ∧ w'.cell? ⟨nb, 3, none⟩ = some (.int .i64 c.num) ∧ w'.cell? ⟨w5.heap.size, m, none⟩ = some (.string (cmpW[m]?.getD ByteArray.empty)))) (fun _ h => ⟨h.1, h.2.1, h.2.2.1, h.2.2.2.1⟩) _ _ _ _ ?_
          have hHeld4 := And.intro hHeld3.1 (And.intro hHeld3.2.1 (And.intro hHeld3.2.2.1 (And.intro hHeld3.2.2.2 T5)))
          clear hHeld3
          refine wpAnyH_take (i := 8) (v := ?_) rfl (by kernel_rfl) (by kernel_rfl) (by kernel_rfl) (fun _ _ _ h => h) (Or.inl ⟨by rfl, ?_⟩) (by assumption) ?_
          rotate_left
          · (intro w hSw; (try dsimp only at hSw); go_split_ands; go_simp; try with_reducible rfl)
          try simp only [Act.put, List.setIfInBounds_toArray, List.set_cons_zero, List.set_cons_succ]
          refine wpAnyH_take (i := 9) (v := ?_) rfl (by kernel_rfl) (by kernel_rfl) (by kernel_rfl) (fun _ _ _ h => h) (Or.inl ⟨by rfl, ?_⟩) (by assumption) ?_
          rotate_left
          · (intro w hSw; (try dsimp only at hSw); go_split_ands; go_simp; try with_reducible rfl)
          try simp only [Act.put, List.setIfInBounds_toArray, List.set_cons_zero, List.set_cons_succ]
          refine wpAnyH_take (i := 10) (v := ?_) rfl (by kernel_rfl) (by kernel_rfl) (by kernel_rfl) (fun _ _ _ h => h) (Or.inl ⟨by rfl, ?_⟩) (by assumption) ?_
          rotate_left
          · (intro w hSw; (try dsimp only at hSw); go_split_ands; go_simp; try with_reducible rfl)
          try simp only [Act.put, List.setIfInBounds_toArray, List.set_cons_zero, List.set_cons_succ]
          refine wpAnyH_take (i := 11) (v := ?_) rfl (by kernel_rfl) (by kernel_rfl) (by kernel_rfl) (fun _ _ _ h => h) (Or.inl ⟨by rfl, ?_⟩) (by assumption) ?_
          rotate_left
          · (intro w hSw; (try dsimp only at hSw); go_split_ands; go_simp; try with_reducible rfl)
          try simp only [Act.put, List.setIfInBounds_toArray, List.set_cons_zero, List.set_cons_succ]
          refine wpAnyH_ready (rs := [14]) (by kernel_rfl) (by simp) ?_
          refine AllReadyH.cons rfl (fun K hK => ?_) AllReadyH.nil
          go_simp
          go_at_call 42
          refine (num_calls c.num _ (HEb.out.ext (by (repeat (first | exact Ext.refl _ _ | assumption | with_reducible refine Ext.alloc ?_ _ | with_reducible refine Ext.drewN ?_ _ | with_reducible refine Ext.drew ?_)))) HnumH.out).mono ?_
          rintro e w7 ⟨rfl, E7⟩
          have F7 : Ext [] wb w7 := Ext.trans (by (repeat (first | exact Ext.refl _ _ | assumption | with_reducible refine Ext.alloc ?_ _ | with_reducible refine Ext.drewN ?_ _ | with_reducible refine Ext.drew ?_))) E7
          have T7 := E7.keeps (S := []) T5 (by simp)
          have z7 := F7.size
          refine hK.out _ _ ⟨Ext.keeps (S := []) F7 e0 (by simp), Ext.keeps (S := []) F7 e1 (by simp), Ext.keeps (S := []) F7 e2 (by simp), Ext.keeps (S := []) F7 e3 (by simp), T7⟩ (fun hHeld5 => ?_)
          clear hK K
          try simp only [Act.put, List.setIfInBounds_toArray, List.set_cons_zero, List.set_cons_succ]
          clear hHeld4
          refine wpAnyH_take (i := 15) (v := ?_) rfl (by kernel_rfl) (by kernel_rfl) (by kernel_rfl) (fun _ _ _ h => h) (Or.inl ⟨by rfl, ?_⟩) (by assumption) ?_
          rotate_left
          · (intro w hSw; (try dsimp only at hSw); go_split_ands; go_simp; try with_reducible rfl)
          try simp only [Act.put, List.setIfInBounds_toArray, List.set_cons_zero, List.set_cons_succ]
          refine wpAnyH_ready (rs := [16]) (by kernel_rfl) (by simp) ?_
          refine AllReadyH.cons rfl (fun K hK => ?_) AllReadyH.nil
          go_simp
          have T8 := ((Ext.refl [] w7).alloc (.cells #[.string (condT c)] 9)).keeps T7 (by simp)
          rw [HT.out] at T8
          refine hK.out _ _ ⟨Ext.keeps (S := []) (F7.alloc _) e0 (by simp), Ext.keeps (S := []) (F7.alloc _) e1 (by simp), Ext.keeps (S := []) (F7.alloc _) e2 (by simp), Ext.keeps (S := []) (F7.alloc _) e3 (by simp), T8⟩ (fun hHeld6 => ?_)
          clear hK K
          try simp only [Act.put, List.setIfInBounds_toArray, List.set_cons_zero, List.set_cons_succ]
          clear hHeld5
          refine wpAnyH_ready (rs := [17]) (by kernel_rfl) (by simp) ?_
          refine AllReadyH.cons rfl (fun K hK => ?_) AllReadyH.nil
          refine step_append_lies _ rfl (.tmp 33) (.tmp 49) 91 rfl wo.heap.size 9 i0 _ 1 16 Tryz.underlying91 hi hz0 hz1 hz2 rfl (by decide) _ _ _ rfl (ownsRow_ext (S := []) Hrowb.out ?hext (by simp)) ⟨_, 0, none⟩ 1 1 [.string (condT c)] rfl rfl ?hnews ?h1 (by decide) ?h63 ?hby ?hbase _ rfl ?_
          case hext => (repeat (first | exact Ext.refl _ _ | assumption | with_reducible refine Ext.alloc ?_ _ | with_reducible refine Ext.drewN ?_ _ | with_reducible refine Ext.drew ?_))
          case hnews => (rw [HT.out]; first | exact cells_new _ _ _ | exact World.news_of_block (by simp))
          case h1 => simp [Value.oneCell']
          case h63 => (unfold maxLen; omega)
          case hby => omega
          case hbase => (simp; omega)
          intro g cap' w8 hown hgrow hat hlt
          obtain ⟨G0, G1, G2, G3, EF⟩ := after_append hgrow (by (repeat (first | exact Ext.refl _ _ | assumption | with_reducible refine Ext.alloc ?_ _ | with_reducible refine Ext.drewN ?_ _ | with_reducible refine Ext.drew ?_))) e0 e1 e2 e3 E5b Hlt.out
          have G4 := far_append hgrow T8 Hlt.out (by have := F6.size; have := cell_lt e0; omega)
          refine hK.out _ _ ⟨G0, G1, G2, G3, G4⟩ (fun hHeld7 => ?_)
          clear hK K
          try simp only [Act.put, List.setIfInBounds_toArray, List.set_cons_zero, List.set_cons_succ]
          refine wpAnyH_take (i := 18) (v := ?_) rfl (by kernel_rfl) (by kernel_rfl) (by kernel_rfl) (fun _ _ _ h => h) (Or.inl ⟨by rfl, ?_⟩) (by assumption) ?_
          rotate_left
          · (intro w hSw; (try dsimp only at hSw); go_split_ands; go_simp; try with_reducible rfl)
          try simp only [Act.put, List.setIfInBounds_toArray, List.set_cons_zero, List.set_cons_succ]
          refine wpAnyH_done (by kernel_rfl) ?_ _
          all_goals go_wp2_with fail
          all_goals
            go_roundw
            case rel =>
              refine ⟨k2 + 1, by go_num, by omega, EF, ?_⟩
              have hmin : min k2 whr.length = k2 := by omega
              unfold strs
              rw [take_snoc Hc.out]
              simpa [hmin] using hown
            case measure => simp [intOf]; omega
        · obtain rfl : k2 = whr.length := by omega
          rw [List.take_length] at row
          have rowC := ownsRow_ext Hrow.out E5 (by simp)
          obtain ⟨gS, capS', hvS, hJ1⟩ := join_own (cols.map colT) rowC hlc.symm (by omega) (by omega) bComma 26 (by decide) (by decide) (by intro x hx; obtain ⟨c, hc, rfl⟩ := List.mem_map.1 hx; exact colT_size (HC.out c hc))
          have hs1 : (prt1 ⟨cols, whr, srt, lim⟩).size ≤ 448 := by
            have := joinB_size (cols.map colT) bComma 26 (by intro x hx; obtain ⟨c, hc, rfl⟩ := List.mem_map.1 hx; exact colT_size (HC.out c hc))
            rw [hlc] at this
            have e : bComma.size = 2 := rfl
            have h2 : cols.length * (bComma.size + 26) ≤ 16 * 28 := Nat.mul_le_mul a2 (by omega)
            exact Nat.le_trans this h2
          have hs2 : (joinB (whr.map condT) bAnd).size ≤ 880 := by
            have := joinB_size (whr.map condT) bAnd 50 (by intro x hx; obtain ⟨c, hc, rfl⟩ := List.mem_map.1 hx; exact condT_size (HD.out c hc) (HN.out c hc))
            rw [List.length_map] at this
            have e : bAnd.size = 5 := rfl
            have h2 : whr.length * (bAnd.size + 50) ≤ 16 * 55 := Nat.mul_le_mul a3 (by omega)
            exact Nat.le_trans this h2
          have B5 := B4.ext E5 (by simp)
          have EZ : Ext [] w wr := E4.trans E5
          simp only [Value.slice.injEq, true_and] at hvS
          obtain ⟨rfl, rfl⟩ := hvS
          have hlw : (whr.map condT).length = whr.length := List.length_map _
          unfold strs at row
          rw [hlw] at row
          obtain ⟨AV, capV, rfl⟩ := ownsRow_shape row
          have hJ2 : Hid (0 < whr.length → ∃ g cap, Value.slice AV whr.length capV = .slice (some ⟨g, 0, none⟩) whr.length cap ∧ ∀ W, Ext [] wr W → Calls Tryz.prog 43 #[.slice (some ⟨g, 0, none⟩) whr.length cap, .string bAnd] W fun e w' => e = .returned (.string (joinB (whr.map condT) bAnd)) ∧ Ext [] W w') := fun hp => by
            obtain ⟨g, cap, h1, _⟩ := join_own (whr.map condT) row hlw.symm (by omega) (by omega) bAnd 50 (by decide) (by decide) (by intro x hx; obtain ⟨c, hc, rfl⟩ := List.mem_map.1 hx; exact condT_size (HD.out c hc) (HN.out c hc))
            refine ⟨g, cap, h1, fun W hW => ?_⟩
            obtain ⟨g', cap', h1', h2⟩ := join_own (whr.map condT) (ownsRow_ext row hW (by simp)) hlw.symm (by omega) (by omega) bAnd 50 (by decide) (by decide) (by intro x hx; obtain ⟨c, hc, rfl⟩ := List.mem_map.1 hx; exact condT_size (HD.out c hc) (HN.out c hc))
            rw [h1] at h1'
            simp only [Value.slice.injEq, true_and, Option.some.injEq, Addr.mk.injEq, and_true] at h1'
            obtain ⟨rfl, rfl⟩ := h1'
            exact h2
          clear row rowC
          go_upto_if 56 with (go_at_call 43; refine hJ1.mono ?_; rintro e w9 ⟨rfl, E9⟩; have F9 : Ext [] wr w9 := E9)
          go_cut [9] (fun v W => v = .string (prt2 ⟨cols, whr, srt, lim⟩) ∧ Ext [] wr W)
          case first =>
            by_cases hw : whr = []
            · have Hp := Lib.hid (show prt2 ⟨cols, whr, srt, lim⟩ = prt1 ⟨cols, whr, srt, lim⟩ by unfold prt2; rw [if_pos hw])
              have hw0 : whr.length = 0 := by rw [hw]; rfl
              clear hw
              go_wp2_with fail
              go_meet
              case rel => exact ⟨by rw [Hp.out]; rfl, F9⟩
            · have Hp := Lib.hid (show prt2 ⟨cols, whr, srt, lim⟩ = prt1 ⟨cols, whr, srt, lim⟩ ++ (bWhere ++ joinB (whr.map condT) bAnd) by unfold prt2; rw [if_neg hw])
              have hw0 : 0 < whr.length := List.length_pos_iff.2 hw
              clear hw
              obtain ⟨gV, cV, hVe, hVc⟩ := hJ2.out hw0
              simp only [Value.slice.injEq, true_and] at hVe
              obtain ⟨rfl, rfl⟩ := hVe
              have hcj : (joinB (cols.map colT) bComma).size ≤ 448 := hs1
              go_wp2_with (go_at_call 43; refine (hVc _ F9).mono ?_; rintro e w10 ⟨rfl, E10⟩)
              go_meet
              case rel => exact ⟨by rw [Hp.out]; rfl, F9.trans E10⟩
          case rest =>
            obtain ⟨rfl, EC⟩ := hcut
            have BC := B5.ext EC (by simp)
            have ECw := EZ.trans EC
            have HEC := Lib.hid (henv.ext ECw)
            have hs4 : (prt2 ⟨cols, whr, srt, lim⟩).size ≤ 1335 := by
              unfold prt2
              split
              · omega
              · rw [ByteArray.size_append, ByteArray.size_append]
                have e : bWhere.size = 7 := rfl
                dsimp only
                omega
            have H4 := Lib.hid (show prt4 ⟨cols, whr, srt, lim⟩ = if 0 < lim then prt3 ⟨cols, whr, srt, lim⟩ ++ (bLimit ++ itoaB lim) else prt3 ⟨cols, whr, srt, lim⟩ from rfl)
            have H3 := Lib.hid (show prt3 ⟨cols, whr, srt, lim⟩ = if 0 < srt then prt2 ⟨cols, whr, srt, lim⟩ ++ (bSort ++ itoaB srt) else if srt < 0 then prt2 ⟨cols, whr, srt, lim⟩ ++ (bSort ++ itoaB (-srt) ++ bDown) else prt2 ⟨cols, whr, srt, lim⟩ from rfl)
            have hz1 : (itoaB srt).size ≤ 20 := itoaB_size (by unfold lim63; omega)
            have hz2 : (itoaB (-srt)).size ≤ 20 := itoaB_size (by unfold lim63; omega)
            have hz3 : (itoaB lim).size ≤ 20 := itoaB_size (by unfold lim63; omega)
            have c2 := BC.cell 2
            have c3 := BC.cell 3
            simp only [List.getElem?_cons_zero, List.getElem?_cons_succ] at c2 c3
            have n1 : Hid (∀ W, Ext [] wc W → Calls Tryz.prog 42 #[.int .i64 srt] W fun e w' => e = .returned (.string (itoaB srt)) ∧ Ext [] W w') := fun W hW => num_calls srt W (HEC.out.ext hW) (by unfold lim63; omega)
            have n2 : Hid (∀ W, Ext [] wc W → Calls Tryz.prog 42 #[.int .i64 (-srt)] W fun e w' => e = .returned (.string (itoaB (-srt))) ∧ Ext [] W w') := fun W hW => num_calls (-srt) W (HEC.out.ext hW) (by unfold lim63; omega)
            have n3 : Hid (∀ W, Ext [] wc W → Calls Tryz.prog 42 #[.int .i64 lim] W fun e w' => e = .returned (.string (itoaB lim)) ∧ Ext [] W w') := fun W hW => num_calls lim W (HEC.out.ext hW) (by unfold lim63; omega)
            clear hJ1 hJ2 hs1 hs2 F9 E9
            generalize prt2 ⟨cols, whr, srt, lim⟩ = P2 at *
            rcases Int.lt_trichotomy srt 0 with hs | hs | hs
            · rcases Int.lt_or_le 0 lim with hl | hl
              · go_wp2_with (first | (go_at_call 42; refine (n2.out _ (Ext.refl _ _)).mono ?_; rintro e w11 ⟨rfl, E11⟩; have d3 := E11.keeps c3 (by simp)) | (go_at_call 42; refine (n3.out _ E11).mono ?_; rintro e w12 ⟨rfl, E12⟩))
                go_ret
                exact ⟨by rw [H4.out, H3.out, if_pos (by omega : 0 < lim), if_neg (by omega : ¬ 0 < srt), if_pos (by omega : srt < 0)]; rfl, ((ECw.trans E11).trans E12)⟩
              · go_wp2_with (go_at_call 42; refine (n2.out _ (Ext.refl _ _)).mono ?_; rintro e w11 ⟨rfl, E11⟩; have d3 := E11.keeps c3 (by simp))
                go_ret
                exact ⟨by rw [H4.out, H3.out, if_neg (by omega : ¬ 0 < lim), if_neg (by omega : ¬ 0 < srt), if_pos (by omega : srt < 0)]; rfl, (ECw.trans E11)⟩
            · rcases Int.lt_or_le 0 lim with hl | hl
              · go_wp2_with (go_at_call 42; refine (n3.out _ (Ext.refl _ _)).mono ?_; rintro e w12 ⟨rfl, E12⟩)
                go_ret
                exact ⟨by rw [H4.out, H3.out, if_pos (by omega : 0 < lim), if_neg (by omega : ¬ 0 < srt), if_neg (by omega : ¬ srt < 0)]; rfl, (ECw.trans E12)⟩
              · go_wp2_with fail
                go_ret
                exact ⟨by rw [H4.out, H3.out, if_neg (by omega : ¬ 0 < lim), if_neg (by omega : ¬ 0 < srt), if_neg (by omega : ¬ srt < 0)]; rfl, ECw⟩
            · rcases Int.lt_or_le 0 lim with hl | hl
              · go_wp2_with (first | (go_at_call 42; refine (n1.out _ (Ext.refl _ _)).mono ?_; rintro e w11 ⟨rfl, E11⟩; have d3 := E11.keeps c3 (by simp)) | (go_at_call 42; refine (n3.out _ E11).mono ?_; rintro e w12 ⟨rfl, E12⟩))
                go_ret
                exact ⟨by rw [H4.out, H3.out, if_pos (by omega : 0 < lim), if_pos (by omega : 0 < srt)]; rfl, ((ECw.trans E11).trans E12)⟩
              · go_wp2_with (go_at_call 42; refine (n1.out _ (Ext.refl _ _)).mono ?_; rintro e w11 ⟨rfl, E11⟩; have d3 := E11.keeps c3 (by simp))
                go_ret
                exact ⟨by rw [H4.out, H3.out, if_neg (by omega : ¬ 0 < lim), if_pos (by omega : 0 < srt)]; rfl, (ECw.trans E11)⟩
end Go.Proofs.YtkpholfdjgdjnaaGreatDoor
namespace Go.Proofs.YtkpholfdjgdjnaaGreatDoor
open Go Go.RowKit Go.Proofs Go.Shelf
theorem pprint_calls (q : QI) (vC vW : Value) (w : World) (henv : Env w) (h : QAt w vC vW q) :
    Calls Tryz.prog 14 #[qV vC vW q] w fun e w' => e = .returned (.string (printI q)) ∧ Ext [] w w' := by
  unfold printI
  rcases hf : fitI q with _ | _
  · have HF := Lib.hid hf
    have HQ := Lib.hid h
    obtain ⟨AC, capC, rfl, hnC⟩ := h.rowC.shape
    obtain ⟨AW, capW, rfl, hnW⟩ := h.rowW.shape
    clear hf h
    have E1 : Ext [] w (w.alloc (.cells #[.slice AC q.cols.length capC, .slice AW q.whr.length capW, .int .i64 q.srt, .int .i64 q.lim] 25)) := (Ext.refl [] w).alloc _
    unfold qV
    go_enter Tryz.func14, Tryz.ntmps14
    go_wp2_with (go_at_call 12; refine (pfit_calls q _ _ _ (HQ.out.keep E1)).mono ?_; rw [HF.out]; rintro e w1 ⟨rfl, E2⟩)
    go_ret
    exact ⟨rfl, E1.trans E2⟩
  · exact pprint_fit q vC vW w henv h hf
end Go.Proofs.YtkpholfdjgdjnaaGreatDoor
