/- Texts of the claim, joined: Y5 Y6. -/
import Derived.Test.YtkpholfdjgdjnaaGreatDoorM25
import Derived.Test.YtkpholfdjgdjnaaGreatDoorM12
import Derived.Test.YtkpholfdjgdjnaaGreatDoorM22
namespace Go.Proofs.YtkpholfdjgdjnaaGreatDoor
open Go Go.RowKit Go.Proofs Go.Shelf
def ctx (l : List ColI) (k : Nat) : ByteArray := joinB ((l.take k).map colT) bComma
def wtx (l : List CondI) (k : Nat) : ByteArray := wtxt (l.take k)
theorem take_ne {α : Type} {l : List α} {k : Nat} (h : k < l.length) (h0 : 0 < k) : l.take k ≠ [] := by
  intro h1
  have := congrArg List.length h1
  rw [List.length_take, List.length_nil] at this
  omega
set_option maxRecDepth 100000 in
set_option maxHeartbeats 4000000 in
theorem rprint_fit (q : QI) (vC vW : Value) (w : World) (henv : Env w) (h : QAt w vC vW q) (hnm : NamesOk q) (hf : fitI q = true) :
    Calls Tryz.prog 15 #[qV vC vW q] w fun e w' => e = .returned (.string (prt4 q)) ∧ Ext [] w w' := by
  obtain ⟨AC, capC, hvC, hnC, getC⟩ := Row.at (sz := 2) (fun _ => rfl) (by decide) h.rowC rfl
  obtain ⟨AW, capW, hvW, hnW, getW⟩ := Row.at (sz := 4) (fun _ => rfl) (by decide) h.rowW rfl
  have hnums := h.nums
  have HQ := Lib.hid h
  have HF := Lib.hid hf
  have HNM := Lib.hid hnm
  obtain ⟨hh, hfc, hfd⟩ := fit_parts hf
  clear h hf hnm
  obtain ⟨cols, whr, srt, lim⟩ := q
  unfold fitHead at hh
  obtain ⟨a1, a2, a3, a4, a5, a6, a7⟩ := hh
  unfold qV
  dsimp only at *
  subst hvC hvW
  have E1 : Ext [] w (w.alloc (.cells #[.slice AC cols.length capC, .slice AW whr.length capW, .int .i64 srt, .int .i64 lim] 25)) := (Ext.refl [] w).alloc _
  have B1 := Blk.new w [.slice AC cols.length capC, .slice AW whr.length capW, .int .i64 srt, .int .i64 lim] 25
  have GC := Lib.hid getC
  have GW := Lib.hid getW
  have HN := Lib.hid hnums
  have HC := Lib.hid hfc
  have HD := Lib.hid hfd
  clear getC getW hnums hfc hfd
  go_enter Tryz.func15, Tryz.ntmps15
  go_wp2_with (go_at_call 13; refine (rfit_calls ⟨cols, whr, srt, lim⟩ _ _ _ (HQ.out.keep E1) HNM.out).mono ?_; rw [HF.out]; rintro e w1 ⟨rfl, E2⟩; have E3 : Ext [] w w1 := E1.trans E2; have B3 := B1.ext E2 (by simp))
  clear E1 B1 E2
  go_loopw [3, 4] (fun v i wr => ∃ k : Nat, i = .int .i64 k ∧ k ≤ cols.length ∧ Ext [] w1 wr ∧ v = .string (ctx cols k)) (fun _ i _ => cols.length - (intOf i).toNat)
  case atStart => exact ⟨0, rfl, by omega, Ext.refl _ _, by unfold ctx; rw [List.take_zero, List.map_nil, joinB_nil]⟩
  case round =>
    obtain ⟨k, rfl, hk, E, rfl⟩ := hrel
    have B4 := B3.ext E (by simp)
    have c0 := B4.cell 0
    simp only [List.getElem?_cons_zero] at c0
    have hps : (ctx cols k).size ≤ 448 := ctxt_size _ (fun c hc => HC.out c (List.mem_of_mem_take hc)) (by rw [List.length_take]; omega)
    have nlB := B4.lt
    by_cases hlt : k < cols.length
    · obtain ⟨c, hc⟩ : ∃ c, cols[k]? = some c := ⟨_, List.getElem?_eq_getElem hlt⟩
      obtain ⟨b, o, rfl, hbl, hcell⟩ := GC.out wr (E3.trans E) k c hc
      have d0 := hcell 0 (by decide)
      have d1 := hcell 1 (by decide)
      have Hc := Lib.hid hc
      clear hc hcell
      simp only [colIV, List.getElem?_cons_zero, List.getElem?_cons_succ, Option.getD_some, Nat.add_zero] at d0 d1
      have hop := fitC_op (HC.out c (List.mem_of_getElem? Hc.out))
      have hs1 := colT_size (HC.out c (List.mem_of_getElem? Hc.out))
      have hsz := E.size
      by_cases hk0 : k = 0
      · have HS := Lib.hid (show ctx cols k ++ colT c = ctx cols (k + 1) by
          unfold ctx
          rw [take_snoc Hc.out]
          subst hk0
          rw [List.take_zero, ctxt_first, List.map_nil, joinB_nil, empty_app])
        have hk1 : ¬ (0 : Int) < (k : Int) := by omega
        have hk2 : ¬ 0 < k := by omega
        clear hk0
        go_wp2_with (go_at_call 44; refine (rcolT_calls c _ hop.1 hop.2.1 hop.2.2).mono ?_; rintro e w5 ⟨rfl, E5⟩)
        go_roundw
        case rel => exact ⟨k + 1, by go_num, by omega, E.trans E5, by rw [HS.out]⟩
        case measure => simp [intOf]; omega
      · have HS := Lib.hid (show ctx cols k ++ bComma ++ colT c = ctx cols (k + 1) by
          unfold ctx
          rw [take_snoc Hc.out, ctxt_snoc _ _ (take_ne hlt (by omega))])
        have hk1 : (0 : Int) < (k : Int) := by omega
        have hk2 : 0 < k := by omega
        clear hk0
        go_wp2_with (go_at_call 44; refine (rcolT_calls c _ hop.1 hop.2.1 hop.2.2).mono ?_; rintro e w5 ⟨rfl, E5⟩)
        go_roundw
        case rel => exact ⟨k + 1, by go_num, by omega, E.trans E5, by rw [← HS.out]; rfl⟩
        case measure => simp [intOf]; omega
    · obtain rfl : k = cols.length := by omega
      have hctx : ctx cols cols.length = joinB (cols.map colT) bComma := by unfold ctx; rw [List.take_length]
      rw [hctx] at *
      clear hctx
      obtain ⟨wo, rfl⟩ : ∃ wo : World, wo = wr := ⟨_, rfl⟩
      have E4 : Ext [] w wo := E3.trans E
      have HP := Lib.hid (show joinB (cols.map colT) bComma = prt1 ⟨cols, whr, srt, lim⟩ from rfl)
      have hps' := ctxt_size cols HC.out a2
      have HPR0 := prt2_w ⟨cols, whr, srt, lim⟩
      have HPRsz : (prt2 ⟨cols, whr, srt, lim⟩).size ≤ 1335 := by
        rw [HPR0, ByteArray.size_append]
        have := wtxt_size whr HD.out HN.out a3
        have e : (prt1 ⟨cols, whr, srt, lim⟩).size = (joinB (cols.map colT) bComma).size := rfl
        dsimp only
        omega
      have HPR := Lib.hid HPR0
      clear HPR0
      rw [HP.out] at *
      generalize prt1 ⟨cols, whr, srt, lim⟩ = P1 at *
      go_wp2_with fail
      go_loopw [3, 5] (fun v i W => ∃ k : Nat, i = .int .i64 k ∧ k ≤ whr.length ∧ Ext [] wo W ∧ v = .string (P1 ++ wtx whr k)) (fun _ i _ => whr.length - (intOf i).toNat)
      case atStart => exact ⟨0, rfl, by omega, Ext.refl _ _, by unfold wtx wtxt; rw [List.take_zero, if_pos rfl, app_empty]⟩
      case round =>
        obtain ⟨k2, rfl, hk2, E5, rfl⟩ := hrel
        have B5 := B4.ext E5 (by simp)
        have c1 := B5.cell 1
        simp only [List.getElem?_cons_zero, List.getElem?_cons_succ] at c1
        have nlB5 := B5.lt
        have hws : (P1 ++ wtx whr k2).size ≤ 1335 := by
          unfold wtx
          have := wtxt_size (whr.take k2) (fun c hc => HD.out c (List.mem_of_mem_take hc)) (fun c hc => HN.out c (List.mem_of_mem_take hc)) (by rw [List.length_take]; omega)
          rw [ByteArray.size_append]
          omega
        by_cases hlt2 : k2 < whr.length
        · obtain ⟨c, hc⟩ : ∃ c, whr[k2]? = some c := ⟨_, List.getElem?_eq_getElem hlt2⟩
          obtain ⟨b, o, rfl, hbl, hcell⟩ := GW.out _ (E4.trans E5) k2 c hc
          have d0 := hcell 0 (by decide)
          have d1 := hcell 1 (by decide)
          have d2 := hcell 2 (by decide)
          have d3 := hcell 3 (by decide)
          have Hc := Lib.hid hc
          clear hc hcell
          simp only [condIV, List.getElem?_cons_zero, List.getElem?_cons_succ, Option.getD_some, Nat.add_zero] at d0 d1 d2 d3
          have hop := fitD_op (HD.out c (List.mem_of_getElem? Hc.out))
          have hop2 := fitC_op hop.1
          have hs1 := colT_size hop.1
          have hnum := HN.out c (List.mem_of_getElem? Hc.out)
          have hs3 := itoaB_size hnum
          obtain ⟨m, hm⟩ : ∃ m : Nat, c.cmp = m := ⟨c.cmp.toNat, by omega⟩
          have hm7 : m < 7 := by omega
          have hs2 := cmpW_size m hm7
          have ht := tabV_get cmpW m hm7
          have HnumH := Lib.hid hnum
          have HT := Lib.hid (show condT c = colT c.col ++ bsp ++ (cmpW[m]?.getD ByteArray.empty) ++ bsp ++ itoaB c.num by unfold condT; rw [hm]; rfl)
          clear hnum
          rw [hm] at d2
          generalize hP2 : P1 ++ wtx whr k2 = P2 at *
          have HP2 := Lib.hid hP2
          clear hP2
          have HW : Hid (∃ sep : ByteArray, sep.size ≤ 7 ∧ (if k2 = 0 then bWhere else bAnd) = sep ∧ P1 ++ wtx whr (k2 + 1) = P2 ++ sep ++ condT c) := by
            have HP2' := HP2.out
            unfold wtx at *
            refine ⟨_, ?_, rfl, ?_⟩
            · split <;> decide
            · rw [take_snoc Hc.out]
              split
              · rename_i h0
                subst h0
                have e := HP2'
                rw [List.take_zero] at e ⊢
                have e0 : wtxt ([] : List CondI) = ⟨#[]⟩ := by unfold wtxt; rw [if_pos rfl]
                rw [e0, app_empty] at e
                rw [wtxt_first, ← e, ByteArray.append_assoc]
              · rw [wtxt_snoc _ _ (take_ne hlt2 (by omega)), ← HP2']
                simp only [ByteArray.append_assoc]
          obtain ⟨sep, hsep, hsepe, HStep⟩ := HW.out
          have HSep := Lib.hid hsepe
          have HSt := Lib.hid HStep
          clear hsepe HStep HW
          go_upto_if 42 with fail
          obtain ⟨wb, hwb⟩ : ∃ wb, wb = wr.alloc (Obj.cells #[.int .i64 c.col.op, .string c.col.name, .int .i64 m, .int .i64 c.num] 59) := ⟨_, rfl⟩
          have Bc : Blk wb wr.heap.size [.int .i64 c.col.op, .string c.col.name, .int .i64 m, .int .i64 c.num] 59 := by rw [hwb]; exact Blk.new _ [.int .i64 c.col.op, .string c.col.name, .int .i64 m, .int .i64 c.num] 59
          have Eb : Ext [] wr wb := by rw [hwb]; exact (Ext.refl [] _).alloc _
          have HEb := Lib.hid (henv.ext ((E4.trans E5).trans Eb))
          have E5b := E5.trans Eb
          rw [← hwb]
          have e0 := Bc.cell 0
          have e1 := Bc.cell 1
          have e2 := Bc.cell 2
          have e3 := Bc.cell 3
          simp only [List.getElem?_cons_zero, List.getElem?_cons_succ] at e0 e1 e2 e3
          clear hwb Bc d0 d1 d2 d3 hbl c1
          go_cut [3] (fun v W => v = .string (P2 ++ sep) ∧ W = wb)
          case first =>
            by_cases hk0 : k2 = 0
            · have HSe := Lib.hid (show sep = bWhere by rw [← HSep.out, if_pos hk0])
              subst hk0
              go_wp2_with fail
              go_meet
              case rel => exact ⟨by rw [HSe.out]; rfl, rfl⟩
            · have HSe := Lib.hid (show sep = bAnd by rw [← HSep.out, if_neg hk0])
              have hk1 : ¬ (k2 : Int) = 0 := by omega
              clear hk0
              go_wp2_with fail
              go_meet
              case rel => exact ⟨by rw [HSe.out]; rfl, rfl⟩
          case rest =>
          obtain ⟨rfl, hwc⟩ := hcut
          subst hwc
          have hm7i : (m : Int) < 7 := by omega
          have hm0i : (0 : Int) ≤ (m : Int) := by omega
          have hps2 : (P2 ++ sep).size ≤ 1342 := by rw [ByteArray.size_append]; omega
          generalize P2 ++ sep = P3 at *
          have k0 : ¬ 9223372036854775807 < P3.size + (colT c.col).size := by omega
          have k1 : ¬ 9223372036854775807 < P3.size + (colT c.col).size + 1 := by omega
          have k2' : ¬ 9223372036854775807 < P3.size + (colT c.col).size + 1 + (cmpW[m]?.getD ByteArray.empty).size := by omega
          have k3 : ¬ 9223372036854775807 < P3.size + (colT c.col).size + 1 + (cmpW[m]?.getD ByteArray.empty).size + 1 := by omega
          have k4 : ¬ 9223372036854775807 < P3.size + (colT c.col).size + 1 + (cmpW[m]?.getD ByteArray.empty).size + 1 + (itoaB c.num).size := by omega
          generalize wr.heap.size = nb at *
          go_upto_region 17 with fail
          refine wp_region_held_drew (S := (fun w' => w'.cell? ⟨nb, 0, none⟩ = some (.int .i64 c.col.op) ∧ w'.cell? ⟨nb, 1, none⟩ = some (.string c.col.name) ∧ w'.cell? ⟨nb, 2, none⟩ = some (.int .i64 m) ∧ w'.cell? ⟨nb, 3, none⟩ = some (.int .i64 c.num))) (by kernel_rfl) ⟨e0, e1, e2, e3⟩ (fun hHeld => ?_)
          refine wpAnyH_take (i := 0) (v := ?_) rfl (by kernel_rfl) (by kernel_rfl) (by kernel_rfl) (fun _ _ _ h => h) (Or.inl ⟨by rfl, ?_⟩) (by assumption) ?_
          rotate_left
          · (intro w hSw; (try dsimp only at hSw); go_split_ands; go_simp; try with_reducible rfl)
          try simp only [Act.put, List.setIfInBounds_toArray, List.set_cons_zero, List.set_cons_succ]
          refine wpAnyH_take (i := 1) (v := ?_) rfl (by kernel_rfl) (by kernel_rfl) (by kernel_rfl) (fun _ _ _ h => h) (Or.inl ⟨by rfl, ?_⟩) (by assumption) ?_
          rotate_left
          · (intro w hSw; (try dsimp only at hSw); go_split_ands; go_simp; try with_reducible rfl)
          try simp only [Act.put, List.setIfInBounds_toArray, List.set_cons_zero, List.set_cons_succ]
          refine wpAnyH_take (i := 2) (v := ?_) rfl (by kernel_rfl) (by kernel_rfl) (by kernel_rfl) (fun _ _ _ h => h) (Or.inl ⟨by rfl, ?_⟩) (by assumption) ?_
          rotate_left
          · (intro w hSw; (try dsimp only at hSw); go_split_ands; go_simp; try with_reducible rfl)
          try simp only [Act.put, List.setIfInBounds_toArray, List.set_cons_zero, List.set_cons_succ]
          refine wpAnyH_take (i := 7) (v := ?_) rfl (by kernel_rfl) (by kernel_rfl) (by kernel_rfl) (fun _ _ _ h => h) (Or.inl ⟨by rfl, ?_⟩) (by assumption) ?_
          rotate_left
          · (intro w hSw; (try dsimp only at hSw); go_split_ands; go_simp; try with_reducible rfl)
          try simp only [Act.put, List.setIfInBounds_toArray, List.set_cons_zero, List.set_cons_succ]
          refine wpAnyH_take (i := 8) (v := ?_) rfl (by kernel_rfl) (by kernel_rfl) (by kernel_rfl) (fun _ _ _ h => h) (Or.inl ⟨by rfl, ?_⟩) (by assumption) ?_
          rotate_left
          · (intro w hSw; (try dsimp only at hSw); go_split_ands; go_simp; try with_reducible rfl)
          try simp only [Act.put, List.setIfInBounds_toArray, List.set_cons_zero, List.set_cons_succ]
          refine wpAnyH_take (i := 13) (v := ?_) rfl (by kernel_rfl) (by kernel_rfl) (by kernel_rfl) (fun _ _ _ h => h) (Or.inl ⟨by rfl, ?_⟩) (by assumption) ?_
          rotate_left
          · (intro w hSw; (try dsimp only at hSw); go_split_ands; go_simp; try with_reducible rfl)
          try simp only [Act.put, List.setIfInBounds_toArray, List.set_cons_zero, List.set_cons_succ]
          refine wpAnyH_take (i := 14) (v := ?_) rfl (by kernel_rfl) (by kernel_rfl) (by kernel_rfl) (fun _ _ _ h => h) (Or.inl ⟨by rfl, ?_⟩) (by assumption) ?_
          rotate_left
          · (intro w hSw; (try dsimp only at hSw); go_split_ands; go_simp; try with_reducible rfl)
          try simp only [Act.put, List.setIfInBounds_toArray, List.set_cons_zero, List.set_cons_succ]
          refine wpAnyH_ready (rs := [3]) (by kernel_rfl) (by simp) ?_
          refine AllReadyH.cons rfl (fun K hK => ?_) AllReadyH.nil
          go_simp
          go_at_call 44
          refine (rcolT_calls c.col _ hop2.1 hop2.2.1 hop2.2.2).mono ?_
          rintro e w5 ⟨rfl, E6⟩
          have F6 : Ext [] wc w5 := Ext.trans (by (repeat (first | exact Ext.refl _ _ | assumption | with_reducible refine Ext.alloc ?_ _ | with_reducible refine Ext.drewN ?_ _ | with_reducible refine Ext.drew ?_))) E6
          refine hK.out _ _ ⟨Ext.keeps (S := []) F6 e0 (by simp), Ext.keeps (S := []) F6 e1 (by simp), Ext.keeps (S := []) F6 e2 (by simp), Ext.keeps (S := []) F6 e3 (by simp)⟩ (fun hHeld2 => ?_)
          clear hK K
          try simp only [Act.put, List.setIfInBounds_toArray, List.set_cons_zero, List.set_cons_succ]
          clear hHeld
          refine wpAnyH_take (i := 4) (v := ?_) rfl (by kernel_rfl) (by kernel_rfl) (by kernel_rfl) (fun _ _ _ h => h) (Or.inl ⟨by rfl, ?_⟩) (by assumption) ?_
          rotate_left
          · (intro w hSw; (try dsimp only at hSw); go_split_ands; go_simp; try with_reducible rfl)
          try simp only [Act.put, List.setIfInBounds_toArray, List.set_cons_zero, List.set_cons_succ]
          refine wpAnyH_take (i := 5) (v := ?_) rfl (by kernel_rfl) (by kernel_rfl) (by kernel_rfl) (fun _ _ _ h => h) (Or.inl ⟨by rfl, ?_⟩) (by assumption) ?_
          rotate_left
          · (intro w hSw; (try dsimp only at hSw); go_split_ands; go_simp; try with_reducible rfl)
          try simp only [Act.put, List.setIfInBounds_toArray, List.set_cons_zero, List.set_cons_succ]
          refine wpAnyH_ready (rs := [6]) (by kernel_rfl) (by simp) ?_
          refine AllReadyH.cons rfl (fun K hK => ?_) AllReadyH.nil
          go_simp
          go_at_call 45
          refine (cmpWords_calls _).mono ?_
          rintro e w9 ⟨rfl, rfl⟩
          have T5 := tab_cells w5 cmpW 9 7 _ rfl rfl m hm7
          refine hK.out _ _ ⟨Ext.keeps (S := []) (F6.alloc _) e0 (by simp), Ext.keeps (S := []) (F6.alloc _) e1 (by simp), Ext.keeps (S := []) (F6.alloc _) e2 (by simp), Ext.keeps (S := []) (F6.alloc _) e3 (by simp)⟩ (fun hHeld3 => ?_)
          clear hK K
          try simp only [Act.put, List.setIfInBounds_toArray, List.set_cons_zero, List.set_cons_succ]
          clear hHeld2
          refine wpAnyH_mono (S2 := (fun w' => w'.cell? ⟨nb, 0, none⟩ = some (.int .i64 c.col.op) ∧ w'.cell? ⟨nb, 1, none⟩ = some (.string c.col.name) ∧ w'.cell? ⟨nb, 2, none⟩ = some (.int .i64 m) ∧ w'.cell? ⟨nb, 3, none⟩ = some (.int .i64 c.num) ∧ w'.cell? ⟨w5.heap.size, m, none⟩ = some (.string (cmpW[m]?.getD ByteArray.empty)))) (fun _ h => ⟨h.1, h.2.1, h.2.2.1, h.2.2.2.1⟩) _ _ _ _ ?_
          have hHeld4 := And.intro hHeld3.1 (And.intro hHeld3.2.1 (And.intro hHeld3.2.2.1 (And.intro hHeld3.2.2.2 T5)))
          clear hHeld3
          refine wpAnyH_take (i := 9) (v := ?_) rfl (by kernel_rfl) (by kernel_rfl) (by kernel_rfl) (fun _ _ _ h => h) (Or.inl ⟨by rfl, ?_⟩) (by assumption) ?_
          rotate_left
          · (intro w hSw; (try dsimp only at hSw); go_split_ands; go_simp; try with_reducible rfl)
          try simp only [Act.put, List.setIfInBounds_toArray, List.set_cons_zero, List.set_cons_succ]
          refine wpAnyH_take (i := 10) (v := ?_) rfl (by kernel_rfl) (by kernel_rfl) (by kernel_rfl) (fun _ _ _ h => h) (Or.inl ⟨by rfl, ?_⟩) (by assumption) ?_
          rotate_left
          · (intro w hSw; (try dsimp only at hSw); go_split_ands; go_simp; try with_reducible rfl)
          try simp only [Act.put, List.setIfInBounds_toArray, List.set_cons_zero, List.set_cons_succ]
          refine wpAnyH_take (i := 11) (v := ?_) rfl (by kernel_rfl) (by kernel_rfl) (by kernel_rfl) (fun _ _ _ h => h) (Or.inl ⟨by rfl, ?_⟩) (by assumption) ?_
          rotate_left
          · (intro w hSw; (try dsimp only at hSw); go_split_ands; go_simp; try with_reducible rfl)
          try simp only [Act.put, List.setIfInBounds_toArray, List.set_cons_zero, List.set_cons_succ]
          refine wpAnyH_take (i := 12) (v := ?_) rfl (by kernel_rfl) (by kernel_rfl) (by kernel_rfl) (fun _ _ _ h => h) (Or.inl ⟨by rfl, ?_⟩) (by assumption) ?_
          rotate_left
          · (intro w hSw; (try dsimp only at hSw); go_split_ands; go_simp; try with_reducible rfl)
          try simp only [Act.put, List.setIfInBounds_toArray, List.set_cons_zero, List.set_cons_succ]
          refine wpAnyH_ready (rs := [15]) (by kernel_rfl) (by simp) ?_
          refine AllReadyH.cons rfl (fun K hK => ?_) AllReadyH.nil
          go_simp
          go_at_call 46
          refine (rtext_calls c.num _ (HEb.out.ext (by (repeat (first | exact Ext.refl _ _ | assumption | with_reducible refine Ext.alloc ?_ _ | with_reducible refine Ext.drewN ?_ _ | with_reducible refine Ext.drew ?_)))) HnumH.out).mono ?_
          rintro e w7 ⟨rfl, E7⟩
          have F7 : Ext [] wc w7 := Ext.trans (by (repeat (first | exact Ext.refl _ _ | assumption | with_reducible refine Ext.alloc ?_ _ | with_reducible refine Ext.drewN ?_ _ | with_reducible refine Ext.drew ?_))) E7
          have T7 := E7.keeps (S := []) T5 (by simp)
          refine hK.out _ _ ⟨Ext.keeps (S := []) F7 e0 (by simp), Ext.keeps (S := []) F7 e1 (by simp), Ext.keeps (S := []) F7 e2 (by simp), Ext.keeps (S := []) F7 e3 (by simp), T7⟩ (fun hHeld5 => ?_)
          clear hK K
          try simp only [Act.put, List.setIfInBounds_toArray, List.set_cons_zero, List.set_cons_succ]
          clear hHeld4
          refine wpAnyH_take (i := 16) (v := ?_) rfl (by kernel_rfl) (by kernel_rfl) (by kernel_rfl) (fun _ _ _ h => h) (Or.inl ⟨by rfl, ?_⟩) (by assumption) ?_
          rotate_left
          · (intro w hSw; (try dsimp only at hSw); go_split_ands; go_simp; try with_reducible rfl)
          try simp only [Act.put, List.setIfInBounds_toArray, List.set_cons_zero, List.set_cons_succ]
          refine wpAnyH_take (i := 17) (v := ?_) rfl (by kernel_rfl) (by kernel_rfl) (by kernel_rfl) (fun _ _ _ h => h) (Or.inl ⟨by rfl, ?_⟩) (by assumption) ?_
          rotate_left
          · (intro w hSw; (try dsimp only at hSw); go_split_ands; go_simp; try with_reducible rfl)
          try simp only [Act.put, List.setIfInBounds_toArray, List.set_cons_zero, List.set_cons_succ]
          refine wpAnyH_done (by kernel_rfl) ?_ _
          all_goals go_wp2_with fail
          all_goals
            go_roundw
            case rel =>
              refine ⟨k2 + 1, by go_num, by omega, E5b.trans F7, ?_⟩
              rw [HSt.out, HT.out]
              simp only [ByteArray.append_assoc]
              rfl
            case measure => simp [intOf]; omega
        · obtain rfl : k2 = whr.length := by omega
          have hwt : P1 ++ wtx whr whr.length = prt2 ⟨cols, whr, srt, lim⟩ := by
            rw [HPR.out]
            unfold wtx
            rw [List.take_length]
          rw [hwt] at *
          clear hwt HPR
          have ECw : Ext [] w wr := E4.trans E5
          have HEC := Lib.hid (henv.ext ECw)
          have H4 := Lib.hid (show prt4 ⟨cols, whr, srt, lim⟩ = if 0 < lim then prt3 ⟨cols, whr, srt, lim⟩ ++ (bLimit ++ itoaB lim) else prt3 ⟨cols, whr, srt, lim⟩ from rfl)
          have H3 := Lib.hid (show prt3 ⟨cols, whr, srt, lim⟩ = if 0 < srt then prt2 ⟨cols, whr, srt, lim⟩ ++ (bSort ++ itoaB srt) else if srt < 0 then prt2 ⟨cols, whr, srt, lim⟩ ++ (bSort ++ itoaB (-srt) ++ bDown) else prt2 ⟨cols, whr, srt, lim⟩ from rfl)
          have hz1 : (itoaB srt).size ≤ 20 := itoaB_size (by unfold lim63; omega)
          have hz2 : (itoaB (-srt)).size ≤ 20 := itoaB_size (by unfold lim63; omega)
          have hz3 : (itoaB lim).size ≤ 20 := itoaB_size (by unfold lim63; omega)
          have c2 := B5.cell 2
          have c3 := B5.cell 3
          simp only [List.getElem?_cons_zero, List.getElem?_cons_succ] at c2 c3
          have n1 : Hid (∀ W, Ext [] wr W → Calls Tryz.prog 46 #[.int .i64 srt] W fun e w' => e = .returned (.string (itoaB srt)) ∧ Ext [] W w') := fun W hW => rtext_calls srt W (HEC.out.ext hW) (by unfold lim63; omega)
          have n2 : Hid (∀ W, Ext [] wr W → Calls Tryz.prog 46 #[.int .i64 (-srt)] W fun e w' => e = .returned (.string (itoaB (-srt))) ∧ Ext [] W w') := fun W hW => rtext_calls (-srt) W (HEC.out.ext hW) (by unfold lim63; omega)
          have n3 : Hid (∀ W, Ext [] wr W → Calls Tryz.prog 46 #[.int .i64 lim] W fun e w' => e = .returned (.string (itoaB lim)) ∧ Ext [] W w') := fun W hW => rtext_calls lim W (HEC.out.ext hW) (by unfold lim63; omega)
          generalize prt2 ⟨cols, whr, srt, lim⟩ = P2 at *
          rcases Int.lt_trichotomy srt 0 with hs | hs | hs
          · have hs' : ¬ 0 < srt := by omega
            rcases Int.lt_or_le 0 lim with hl | hl
            · go_wp2_with (first | (go_at_call 46; refine (n2.out _ (Ext.refl _ _)).mono ?_; rintro e w11 ⟨rfl, E11⟩; have d3 := E11.keeps c3 (by simp)) | (go_at_call 46; refine (n3.out _ E11).mono ?_; rintro e w12 ⟨rfl, E12⟩))
              go_ret
              exact ⟨by rw [H4.out, H3.out, if_pos (by omega : 0 < lim), if_neg (by omega : ¬ 0 < srt), if_pos (by omega : srt < 0)]; simp only [ByteArray.append_assoc]; rfl, ((ECw.trans E11).trans E12)⟩
            · have hl' : ¬ 0 < lim := by omega
              go_wp2_with (go_at_call 46; refine (n2.out _ (Ext.refl _ _)).mono ?_; rintro e w11 ⟨rfl, E11⟩; have d3 := E11.keeps c3 (by simp))
              go_ret
              exact ⟨by rw [H4.out, H3.out, if_neg (by omega : ¬ 0 < lim), if_neg (by omega : ¬ 0 < srt), if_pos (by omega : srt < 0)]; simp only [ByteArray.append_assoc]; rfl, (ECw.trans E11)⟩
          · have hs' : ¬ 0 < srt := by omega
            have hs2 : ¬ srt < 0 := by omega
            clear hs
            rcases Int.lt_or_le 0 lim with hl | hl
            · go_wp2_with (go_at_call 46; refine (n3.out _ (Ext.refl _ _)).mono ?_; rintro e w12 ⟨rfl, E12⟩)
              go_ret
              exact ⟨by rw [H4.out, H3.out, if_pos (by omega : 0 < lim), if_neg (by omega : ¬ 0 < srt), if_neg (by omega : ¬ srt < 0)]; simp only [ByteArray.append_assoc]; rfl, (ECw.trans E12)⟩
            · have hl' : ¬ 0 < lim := by omega
              go_wp2_with fail
              go_ret
              exact ⟨by rw [H4.out, H3.out, if_neg (by omega : ¬ 0 < lim), if_neg (by omega : ¬ 0 < srt), if_neg (by omega : ¬ srt < 0)]; rfl, ECw⟩
          · have hs2 : ¬ srt < 0 := by omega
            rcases Int.lt_or_le 0 lim with hl | hl
            · go_wp2_with (first | (go_at_call 46; refine (n1.out _ (Ext.refl _ _)).mono ?_; rintro e w11 ⟨rfl, E11⟩; have d2 := E11.keeps c2 (by simp); have d3 := E11.keeps c3 (by simp)) | (go_at_call 46; refine (n3.out _ E11).mono ?_; rintro e w12 ⟨rfl, E12⟩))
              go_ret
              exact ⟨by rw [H4.out, H3.out, if_pos (by omega : 0 < lim), if_pos (by omega : 0 < srt)]; simp only [ByteArray.append_assoc]; rfl, ((ECw.trans E11).trans E12)⟩
            · have hl' : ¬ 0 < lim := by omega
              go_wp2_with (go_at_call 46; refine (n1.out _ (Ext.refl _ _)).mono ?_; rintro e w11 ⟨rfl, E11⟩; have d2 := E11.keeps c2 (by simp); have d3 := E11.keeps c3 (by simp))
              go_ret
              exact ⟨by rw [H4.out, H3.out, if_neg (by omega : ¬ 0 < lim), if_pos (by omega : 0 < srt)]; simp only [ByteArray.append_assoc]; rfl, (ECw.trans E11)⟩
theorem rprint_calls (q : QI) (vC vW : Value) (w : World) (henv : Env w) (h : QAt w vC vW q) (hnm : NamesOk q) :
    Calls Tryz.prog 15 #[qV vC vW q] w fun e w' => e = .returned (.string (printI q)) ∧ Ext [] w w' := by
  unfold printI
  rcases hf : fitI q with _ | _
  · have HF := Lib.hid hf
    have HQ := Lib.hid h
    obtain ⟨AC, capC, rfl, hnC⟩ := h.rowC.shape
    obtain ⟨AW, capW, rfl, hnW⟩ := h.rowW.shape
    have HNM := Lib.hid hnm
    clear hf h hnm
    have E1 : Ext [] w (w.alloc (.cells #[.slice AC q.cols.length capC, .slice AW q.whr.length capW, .int .i64 q.srt, .int .i64 q.lim] 25)) := (Ext.refl [] w).alloc _
    unfold qV
    go_enter Tryz.func15, Tryz.ntmps15
    go_wp2_with (go_at_call 13; refine (rfit_calls q _ _ _ (HQ.out.keep E1) HNM.out).mono ?_; rw [HF.out]; rintro e w1 ⟨rfl, E2⟩)
    go_ret
    exact ⟨rfl, E1.trans E2⟩
  · exact rprint_fit q vC vW w henv h hnm hf
end Go.Proofs.YtkpholfdjgdjnaaGreatDoor
namespace Go.Proofs.YtkpholfdjgdjnaaGreatDoor
open Go Go.RowKit Go.Proofs Go.Shelf
theorem QAt.rows {w : World} {vC vW : Value} {q : QI} (h : QAt w vC vW q) : ∃ AC capC AW capW, vC = .slice AC q.cols.length capC ∧ vW = .slice AW q.whr.length capW := by
  obtain ⟨AC, capC, rfl, _⟩ := h.rowC.shape
  obtain ⟨AW, capW, rfl, _⟩ := h.rowW.shape
  exact ⟨AC, capC, AW, capW, rfl, rfl⟩
set_option maxRecDepth 100000 in
set_option maxHeartbeats 2000000 in
theorem queryPrints_calls (q : QI) (vC vW : Value) (w : World) (henv : Env w) (h : QAt w vC vW q) (hnm : NamesOk q) :
    Calls Tryz.prog 4 #[qV vC vW q] w fun e w' => e = .returned (.bool true) ∧ Ext [] w w' := by
  have H12 : Hid (∀ W, Ext [] w W → Calls Tryz.prog 12 #[qV vC vW q] W fun e w' => e = .returned (.bool (fitI q)) ∧ Ext [] W w') := fun W e => pfit_calls q vC vW W (h.keep e)
  have H13 : Hid (∀ W, Ext [] w W → Calls Tryz.prog 13 #[qV vC vW q] W fun e w' => e = .returned (.bool (fitI q)) ∧ Ext [] W w') := fun W e => rfit_calls q vC vW W (h.keep e) hnm
  have H14 : Hid (∀ W, Ext [] w W → Calls Tryz.prog 14 #[qV vC vW q] W fun e w' => e = .returned (.string (printI q)) ∧ Ext [] W w') := fun W e => pprint_calls q vC vW W (henv.ext e) (h.keep e)
  have H15 : Hid (∀ W, Ext [] w W → Calls Tryz.prog 15 #[qV vC vW q] W fun e w' => e = .returned (.string (printI q)) ∧ Ext [] W w') := fun W e => rprint_calls q vC vW W (henv.ext e) (h.keep e) hnm
  have H11 : Hid (∀ W, Ext [] w W → Calls Tryz.prog 11 #[] W fun e w' => e = .returned (.bool true) ∧ Ext [] W w') := fun W e => awake_calls W (henv.ext e)
  obtain ⟨AC, capC, AW, capW, rfl, rfl⟩ := h.rows
  clear h hnm henv
  obtain ⟨cols, whr, srt, lim⟩ := q
  generalize fitI ⟨cols, whr, srt, lim⟩ = f at *
  generalize printI ⟨cols, whr, srt, lim⟩ = p at *
  unfold qV at *
  dsimp only at *
  generalize cols.length = nC at *
  generalize whr.length = nW at *
  clear cols whr
  have B1 := Blk.new w [.slice AC nC capC, .slice AW nW capW, .int .i64 srt, .int .i64 lim] 25
  have E1 : Ext [] w (w.alloc (.cells [.slice AC nC capC, .slice AW nW capW, .int .i64 srt, .int .i64 lim].toArray 25)) := (Ext.refl [] w).alloc _
  go_enter Tryz.func4, Tryz.ntmps4
  go_upto_region 1 with fail
  have c0 := B1.cell 0
  have c1 := B1.cell 1
  have c2 := B1.cell 2
  have c3 := B1.cell 3
  simp only [List.getElem?_cons_zero, List.getElem?_cons_succ] at c0 c1 c2 c3
  clear B1
  generalize hw1 : w.alloc (.cells [.slice AC nC capC, .slice AW nW capW, .int .i64 srt, .int .i64 lim].toArray 25) = w1 at *
  clear hw1
  generalize w.heap.size = nb at *
  have hbb : (f == f) = true := by simp
  have hpp : (p.toList == p.toList) = true := by simp
  go_region_held3 (fun w' => w'.cell? ⟨nb, 0, none⟩ = some (.slice AC nC capC) ∧ w'.cell? ⟨nb, 1, none⟩ = some (.slice AW nW capW) ∧ w'.cell? ⟨nb, 2, none⟩ = some (.int .i64 srt) ∧ w'.cell? ⟨nb, 3, none⟩ = some (.int .i64 lim))
    (first | (refine ⟨?_, ?_, ?_, ?_⟩ <;> (first | assumption | fail)) | (refine ⟨Ext.keeps (S := []) ?_ c0 (by simp), Ext.keeps (S := []) ?_ c1 (by simp), Ext.keeps (S := []) ?_ c2 (by simp), Ext.keeps (S := []) ?_ c3 (by simp)⟩ <;> (repeat (first | exact Ext.refl _ _ | assumption | with_reducible refine Ext.alloc ?_ _ | with_reducible refine Ext.drewN ?_ _ | with_reducible refine Ext.drew ?_))))
    (first
      | (go_at_call 12; refine (H12.out _ (E1.trans (by (repeat (first | exact Ext.refl _ _ | assumption | with_reducible refine Ext.alloc ?_ _ | with_reducible refine Ext.drewN ?_ _ | with_reducible refine Ext.drew ?_))))).mono ?_; rintro e w2 ⟨rfl, E2⟩; have F2 : Ext [] w1 w2 := Ext.trans (by (repeat (first | exact Ext.refl _ _ | assumption | with_reducible refine Ext.alloc ?_ _ | with_reducible refine Ext.drewN ?_ _ | with_reducible refine Ext.drew ?_))) E2)
      | (go_at_call 13; refine (H13.out _ (E1.trans (by (repeat (first | exact Ext.refl _ _ | assumption | with_reducible refine Ext.alloc ?_ _ | with_reducible refine Ext.drewN ?_ _ | with_reducible refine Ext.drew ?_))))).mono ?_; rintro e w3 ⟨rfl, E3⟩; have F3 : Ext [] w1 w3 := Ext.trans (by (repeat (first | exact Ext.refl _ _ | assumption | with_reducible refine Ext.alloc ?_ _ | with_reducible refine Ext.drewN ?_ _ | with_reducible refine Ext.drew ?_))) E3)
      | (go_at_call 14; refine (H14.out _ (E1.trans (by (repeat (first | exact Ext.refl _ _ | assumption | with_reducible refine Ext.alloc ?_ _ | with_reducible refine Ext.drewN ?_ _ | with_reducible refine Ext.drew ?_))))).mono ?_; rintro e w4 ⟨rfl, E4⟩; have F4 : Ext [] w1 w4 := Ext.trans (by (repeat (first | exact Ext.refl _ _ | assumption | with_reducible refine Ext.alloc ?_ _ | with_reducible refine Ext.drewN ?_ _ | with_reducible refine Ext.drew ?_))) E4)
      | (go_at_call 15; refine (H15.out _ (E1.trans (by (repeat (first | exact Ext.refl _ _ | assumption | with_reducible refine Ext.alloc ?_ _ | with_reducible refine Ext.drewN ?_ _ | with_reducible refine Ext.drew ?_))))).mono ?_; rintro e w5 ⟨rfl, E5⟩; have F5 : Ext [] w1 w5 := Ext.trans (by (repeat (first | exact Ext.refl _ _ | assumption | with_reducible refine Ext.alloc ?_ _ | with_reducible refine Ext.drewN ?_ _ | with_reducible refine Ext.drew ?_))) E5)
      | (go_at_call 11; refine (H11.out _ (E1.trans (by (repeat (first | exact Ext.refl _ _ | assumption | with_reducible refine Ext.alloc ?_ _ | with_reducible refine Ext.drewN ?_ _ | with_reducible refine Ext.drew ?_))))).mono ?_; rintro e w6 ⟨rfl, E6⟩; have F6 : Ext [] w1 w6 := Ext.trans (by (repeat (first | exact Ext.refl _ _ | assumption | with_reducible refine Ext.alloc ?_ _ | with_reducible refine Ext.drewN ?_ _ | with_reducible refine Ext.drew ?_))) E6))
  all_goals go_wp2_with fail
  all_goals go_ret
  all_goals exact ⟨rfl, E1.trans F6⟩
end Go.Proofs.YtkpholfdjgdjnaaGreatDoor
