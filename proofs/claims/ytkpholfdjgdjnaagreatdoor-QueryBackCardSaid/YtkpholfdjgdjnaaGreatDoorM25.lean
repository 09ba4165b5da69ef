/- Texts of the claim, joined: Y2 Y3 Y4. -/
import Derived.Test.YtkpholfdjgdjnaaGreatDoorM12
namespace Go.Proofs.YtkpholfdjgdjnaaGreatDoor
open Go Go.RowKit Go.Proofs
set_option maxRecDepth 100000 in
set_option maxHeartbeats 1000000 in
theorem rfitCol_calls (c : ColI) (w : World) (hsz : c.name.size ≤ 9223372036854775807) (b : Bool) (hb : fitC c = b) :
    Calls Tryz.prog 39 #[.agg #[.int .i64 c.op, .string c.name]] w fun e w' => e = .returned (.bool b) ∧ Ext [] w w' := by
  subst hb
  obtain ⟨op, s⟩ := c
  unfold fitC
  dsimp only at *
  have E1 : Ext [] w (w.alloc (.cells #[.int .i64 op, .string s] 57)) := (Ext.refl [] w).alloc _
  by_cases h1 : 1 ≤ op
  · by_cases h9 : op ≤ 9
    · by_cases h6 : op < 6
      · by_cases hs : s = ⟨#[]⟩
        · subst hs
          have hne := toList_nil
          go_enter Tryz.func39, Tryz.ntmps39
          go_wp2_with fail
          go_ret
          exact ⟨by simp [h1, h9, h6], E1⟩
        · have hne := toList_ne hs
          go_enter Tryz.func39, Tryz.ntmps39
          go_wp2_with fail
          go_ret
          exact ⟨by simp [h1, h9, h6, hs], E1⟩
      · have h6' : 6 ≤ op := by omega
        have HN := Lib.hid (fun W => rname_calls s W hsz)
        go_enter Tryz.func39, Tryz.ntmps39
        go_wp2_with (go_at_call 87; refine (HN.out _).mono ?_; rintro e w' ⟨rfl, rfl⟩)
        go_ret
        exact ⟨ret_bool (by simp [h1, h9, h6]), E1⟩
    · go_enter Tryz.func39, Tryz.ntmps39
      go_wp2_with fail
      go_ret
      exact ⟨ret_bool (by simp; intros; omega), E1⟩
  · go_enter Tryz.func39, Tryz.ntmps39
    go_wp2_with fail
    go_ret
    exact ⟨ret_bool (by simp; intros; omega), E1⟩
structure NamesOk (q : QI) : Prop where
  cols : ∀ c ∈ q.cols, c.name.size ≤ 9223372036854775807
  whr : ∀ c ∈ q.whr, c.col.name.size ≤ 9223372036854775807
set_option maxRecDepth 100000 in
set_option maxHeartbeats 4000000 in
theorem rfit_calls (q : QI) (vC vW : Value) (w : World) (h : QAt w vC vW q) (hnm : NamesOk q) :
    Calls Tryz.prog 13 #[qV vC vW q] w fun e w' => e = .returned (.bool (fitI q)) ∧ Ext [] w w' := by
  obtain ⟨AC, capC, rfl, hnC, getC⟩ := Row.at (sz := 2) (fun _ => rfl) (by decide) h.rowC rfl
  obtain ⟨AW, capW, rfl, hnW, getW⟩ := Row.at (sz := 4) (fun _ => rfl) (by decide) h.rowW rfl
  clear h
  obtain ⟨cols, whr, srt, lim⟩ := q
  have NC := Lib.hid hnm.cols
  have NW := Lib.hid hnm.whr
  clear hnm
  unfold qV
  dsimp only at *
  have E1 : Ext [] w (w.alloc (.cells #[.slice AC cols.length capC, .slice AW whr.length capW, .int .i64 srt, .int .i64 lim] 25)) := (Ext.refl [] w).alloc _
  by_cases hh : fitHead ⟨cols, whr, srt, lim⟩
  · have HF : Hid (fitI ⟨cols, whr, srt, lim⟩ = (cols.all fitC && whr.all fitD)) := by unfold Hid fitI; simp [hh]
    unfold fitHead at hh
    obtain ⟨a1, a2, a3, a4, a5, a6, a7⟩ := hh
    dsimp only at a1 a2 a3 a4 a5 a6 a7
    have GC := Lib.hid getC
    have GW := Lib.hid getW
    clear getC getW
    go_enter Tryz.func13, Tryz.ntmps13
    go_wp2_with fail
    go_loopw [3] (fun i wr => ∃ k : Nat, i = .int .i64 k ∧ k ≤ cols.length ∧ Blk wr w.heap.size [.slice AC cols.length capC, .slice AW whr.length capW, .int .i64 srt, .int .i64 lim] 25 ∧ Ext [] w wr ∧ Hid (∀ j c, j < k → cols[j]? = some c → fitC c = true)) (fun i _ => cols.length - (intOf i).toNat)
    case atStart => exact ⟨0, rfl, by omega, Blk.new w [.slice AC cols.length capC, .slice AW whr.length capW, .int .i64 srt, .int .i64 lim] 25, E1, fun j c hj => by omega⟩
    case round =>
      obtain ⟨k, rfl, hk, B, E, hall⟩ := hrel
      have c0 := B.cell 0
      have c1 := B.cell 1
      simp only [List.getElem?_cons_zero, List.getElem?_cons_succ] at c0 c1
      by_cases hlt : k < cols.length
      · obtain ⟨c, hc⟩ : ∃ c, cols[k]? = some c := ⟨_, List.getElem?_eq_getElem hlt⟩
        obtain ⟨b, o, rfl, hbl, hcell⟩ := GC.out wr E k c hc
        have d0 := hcell 0 (by decide)
        have d1 := hcell 1 (by decide)
        have Hc := Lib.hid hc
        have hnc := NC.out c (List.mem_of_getElem? hc)
        clear hc hcell
        simp only [colIV, List.getElem?_cons_zero, List.getElem?_cons_succ, Option.getD_some, Nat.add_zero] at d0 d1
        rcases hf : fitC c with _ | _
        · have Hf := Lib.hid hf
          clear hf
          go_wp2_with (go_at_call 39; refine (rfitCol_calls c _ hnc false Hf.out).mono ?_; rintro e w' ⟨rfl, E2⟩)
          go_ret
          exact ⟨ret_bool (by rw [HF.out, all_no Hc.out Hf.out]; rfl), E.trans E2⟩
        · have Hf := Lib.hid hf
          clear hf
          go_wp2_with (go_at_call 39; refine (rfitCol_calls c _ hnc true Hf.out).mono ?_; rintro e w' ⟨rfl, E2⟩)
          go_roundw
          case rel => exact ⟨k + 1, by go_num, by omega, B.ext E2 (by simp), E.trans E2, all_succ hall.out Hc.out Hf.out⟩
          case measure => simp [intOf]; omega
      · have HA := Lib.hid (all_yes (fun j c hj hc => hall.out j c (by omega) hc))
        clear hall
        go_wp2_with fail
        go_loopw [4] (fun i W => ∃ k : Nat, i = .int .i64 k ∧ k ≤ whr.length ∧ Blk W w.heap.size [.slice AC cols.length capC, .slice AW whr.length capW, .int .i64 srt, .int .i64 lim] 25 ∧ Ext [] w W ∧ Hid (∀ j c, j < k → whr[j]? = some c → fitD c = true)) (fun i _ => whr.length - (intOf i).toNat)
        case atStart => exact ⟨0, rfl, by omega, B, E, fun j c hj => by omega⟩
        case round =>
          obtain ⟨k2, rfl, hk2, B, E, hall⟩ := hrel
          have c1 := B.cell 1
          simp only [List.getElem?_cons_zero, List.getElem?_cons_succ] at c1
          have nl := B.lt
          by_cases hlt2 : k2 < whr.length
          · obtain ⟨c, hc⟩ : ∃ c, whr[k2]? = some c := ⟨_, List.getElem?_eq_getElem hlt2⟩
            obtain ⟨b, o, rfl, hbl, hcell⟩ := GW.out _ E k2 c hc
            have d0 := hcell 0 (by decide)
            have d1 := hcell 1 (by decide)
            have d2 := hcell 2 (by decide)
            have d3 := hcell 3 (by decide)
            have Hc := Lib.hid hc
            have hnc := NW.out c (List.mem_of_getElem? hc)
            clear hc hcell
            simp only [condIV, List.getElem?_cons_zero, List.getElem?_cons_succ, Option.getD_some, Nat.add_zero] at d0 d1 d2 d3
            rcases hf : fitC c.col with _ | _
            · have Hf := Lib.hid hf
              have Hd := Lib.hid (show fitD c = false by unfold fitD; rw [hf]; rfl)
              clear hf
              go_wp2_with (go_at_call 39; refine (rfitCol_calls c.col _ hnc false Hf.out).mono ?_; rintro e w' ⟨rfl, E2⟩)
              go_ret
              exact ⟨ret_bool (by rw [HF.out, HA.out, all_no Hc.out Hd.out]; rfl), (E.alloc _).trans E2⟩
            · have Hf := Lib.hid hf
              clear hf
              by_cases m1 : 1 ≤ c.cmp
              · by_cases m6 : c.cmp ≤ 6
                · have Hd := Lib.hid (show fitD c = true by unfold fitD; rw [Hf.out]; simp [m1, m6])
                  go_wp2_with (go_at_call 39; refine (rfitCol_calls c.col _ hnc true Hf.out).mono ?_; rintro e w' ⟨rfl, E2⟩; have dd : w'.cell? _ = _ := E2.keeps (World.cell?_alloc_new _ _ _ 2) (by simp))
                  go_roundw
                  case rel => exact ⟨k2 + 1, by go_num, by omega, (B.alloc _).ext E2 (by simp), (E.alloc _).trans E2, all_succ hall.out Hc.out Hd.out⟩
                  case measure => simp [intOf]; omega
                · have Hd := Lib.hid (show fitD c = false by unfold fitD; rw [Hf.out]; simp [m6])
                  go_wp2_with (go_at_call 39; refine (rfitCol_calls c.col _ hnc true Hf.out).mono ?_; rintro e w' ⟨rfl, E2⟩; have dd : w'.cell? _ = _ := E2.keeps (World.cell?_alloc_new _ _ _ 2) (by simp))
                  go_ret
                  exact ⟨ret_bool (by rw [HF.out, HA.out, all_no Hc.out Hd.out]; rfl), (E.alloc _).trans E2⟩
              · have Hd := Lib.hid (show fitD c = false by unfold fitD; rw [Hf.out]; simp [m1])
                go_wp2_with (go_at_call 39; refine (rfitCol_calls c.col _ hnc true Hf.out).mono ?_; rintro e w' ⟨rfl, E2⟩; have dd : w'.cell? _ = _ := E2.keeps (World.cell?_alloc_new _ _ _ 2) (by simp))
                go_ret
                exact ⟨ret_bool (by rw [HF.out, HA.out, all_no Hc.out Hd.out]; rfl), (E.alloc _).trans E2⟩
          · have HB := Lib.hid (all_yes (fun j c hj hc => hall.out j c (by omega) hc))
            clear hall
            go_wp2_with fail
            go_ret
            exact ⟨ret_bool (by rw [HF.out, HA.out, HB.out]; rfl), E⟩
  · have HF : Hid (fitI ⟨cols, whr, srt, lim⟩ = false) := by unfold Hid fitI; simp [hh]
    unfold fitHead at hh
    dsimp only at hh
    clear getC getW
    by_cases a1 : 1 ≤ cols.length
    · by_cases a2 : cols.length ≤ 16
      · by_cases a3 : whr.length ≤ 16
        · by_cases a4 : -(cols.length : Int) ≤ srt
          · by_cases a5 : srt ≤ cols.length
            · by_cases a6 : 0 ≤ lim
              · have a7 : ¬ lim ≤ 1000 := by omega
                clear hh
                go_enter Tryz.func13, Tryz.ntmps13
                go_wp2_with fail
                go_ret
                exact ⟨ret_bool HF.out.symm, E1⟩
              · clear hh
                go_enter Tryz.func13, Tryz.ntmps13
                go_wp2_with fail
                go_ret
                exact ⟨ret_bool HF.out.symm, E1⟩
            · clear hh
              go_enter Tryz.func13, Tryz.ntmps13
              go_wp2_with fail
              go_ret
              exact ⟨ret_bool HF.out.symm, E1⟩
          · clear hh
            go_enter Tryz.func13, Tryz.ntmps13
            go_wp2_with fail
            go_ret
            exact ⟨ret_bool HF.out.symm, E1⟩
        · clear hh
          go_enter Tryz.func13, Tryz.ntmps13
          go_wp2_with fail
          go_ret
          exact ⟨ret_bool HF.out.symm, E1⟩
      · clear hh
        go_enter Tryz.func13, Tryz.ntmps13
        go_wp2_with fail
        go_ret
        exact ⟨ret_bool HF.out.symm, E1⟩
    · clear hh
      go_enter Tryz.func13, Tryz.ntmps13
      go_wp2_with fail
      go_ret
      exact ⟨ret_bool HF.out.symm, E1⟩
end Go.Proofs.YtkpholfdjgdjnaaGreatDoor
namespace Go.Proofs.YtkpholfdjgdjnaaGreatDoor
open Go Go.RowKit Go.Proofs Go.Shelf Go.Lib Go.Sort
theorem rtext_calls (n : Int) (w : World) (he : Env w) (h : -lim63 ≤ n ∧ n < lim63) :
    Calls Tryz.prog 46 #[.int .i64 n] w fun e w' => e = .returned (.string (itoaB n)) ∧ Ext [] w w' := by
  have HF : Calls Tryz.prog 89 #[.int .i64 n, .int .i64 10] w fun e w'' => e = .returned (.string (itoaB n)) ∧ ∃ k os, w'' = grow (w.drewN k) os :=
    Tryz.strconv_FormatInt_10 n h.1 (by have := h.2; unfold lim63 at this; omega) _ (tab_env he)
  go_enter Tryz.func46, Tryz.ntmps46
  go_wp2_with (go_at_call 89; refine HF.mono ?_; rintro e w' ⟨rfl, k, os, rfl⟩)
  go_ret
  exact ⟨rfl, ext_grow w k os⟩
set_option maxRecDepth 100000 in
set_option maxHeartbeats 2000000 in
theorem rcolT_calls (c : ColI) (w : World) (h1 : 1 ≤ c.op) (h9 : c.op ≤ 9) (hnm : 6 ≤ c.op → c.name.size ≤ 16) :
    Calls Tryz.prog 44 #[.agg #[.int .i64 c.op, .string c.name]] w fun e w' => e = .returned (.string (colT c)) ∧ Ext [] w w' := by
  obtain ⟨op, s⟩ := c
  dsimp only at h1 h9 hnm
  obtain ⟨n, rfl⟩ : ∃ n : Nat, op = n := ⟨op.toNat, by omega⟩
  have hn10 : n < 10 := by omega
  have ht := tabV_get colW n hn10
  have hcs : (colW[n]?.getD ByteArray.empty).size ≤ 8 := colW_size n hn10
  have E1 : Ext [] w (w.alloc (.cells #[.int .i64 n, .string s] 57)) := (Ext.refl [] w).alloc _
  have B1 := Blk.new w [.int .i64 n, .string s] 57
  have q0 := B1.cell 0
  have q1 := B1.cell 1
  simp only [List.getElem?_cons_zero, List.getElem?_cons_succ] at q0 q1
  by_cases h6 : 6 ≤ n
  · have hsz : s.size ≤ 16 := hnm (by omega)
    have HV := Lib.hid (show colT ⟨n, s⟩ = (colW[n]?.getD ByteArray.empty) ++ (⟨#[40]⟩ : ByteArray) ++ s ++ (⟨#[41]⟩ : ByteArray) by
      unfold colT
      rw [if_pos (by dsimp only; omega)]
      simp only [ByteArray.append_assoc]
      rfl)
    go_enter Tryz.func44, Tryz.ntmps44
    go_upto_region 3 with fail
    go_cut [2] (fun v W => v = .string ((colW[n]?.getD ByteArray.empty) ++ (⟨#[40]⟩ : ByteArray) ++ s ++ (⟨#[41]⟩ : ByteArray)) ∧ Ext [] (w.alloc (.cells #[.int .i64 n, .string s] 57)) W)
    case first =>
      go_region_with (go_at_call 91; refine (colWords_calls _).mono ?_; rintro e w' ⟨rfl, rfl⟩)
      all_goals (go_wp2_with fail)
      all_goals (go_meet; (case rel => (refine ⟨rfl, ?_⟩; (repeat (first | exact Ext.refl _ _ | with_reducible refine Ext.alloc ?_ _ | with_reducible refine Ext.drewN ?_ _ | with_reducible refine Ext.drew ?_)))))
    case rest =>
      obtain ⟨rfl, E2⟩ := hcut
      go_wp2_with fail
      go_ret
      exact ⟨by rw [HV.out]; rfl, E1.trans E2⟩
  · have HV := Lib.hid (show colT ⟨n, s⟩ = (colW[n]?.getD ByteArray.empty) by unfold colT; rw [if_neg (by dsimp only; omega)]; rfl)
    go_enter Tryz.func44, Tryz.ntmps44
    go_upto_region 2 with fail
    go_cut [2] (fun v W => v = .string (colW[n]?.getD ByteArray.empty) ∧ Ext [] (w.alloc (.cells #[.int .i64 n, .string s] 57)) W)
    case first =>
      go_region_with (go_at_call 91; refine (colWords_calls _).mono ?_; rintro e w' ⟨rfl, rfl⟩)
      all_goals (go_wp2_with fail)
      all_goals (go_meet; (case rel => (refine ⟨rfl, ?_⟩; (repeat (first | exact Ext.refl _ _ | with_reducible refine Ext.alloc ?_ _ | with_reducible refine Ext.drewN ?_ _ | with_reducible refine Ext.drew ?_)))))
    case rest =>
      obtain ⟨rfl, E2⟩ := hcut
      go_wp2_with fail
      go_ret
      exact ⟨by rw [HV.out]; rfl, E1.trans E2⟩
end Go.Proofs.YtkpholfdjgdjnaaGreatDoor
namespace Go.Proofs.YtkpholfdjgdjnaaGreatDoor
open Go Go.RowKit Go.Proofs Go.Shelf Go.Lib Go.Sort
theorem joinTail_snoc (sep : List UInt8) (r : List (List UInt8)) (x : List UInt8) : Lib.joinTail sep (r ++ [x]) = Lib.joinTail sep r ++ (sep ++ x) := by
  simp [Lib.joinTail]
theorem joinB_nil (sep : ByteArray) : joinB [] sep = ⟨#[]⟩ := by
  unfold joinB
  simp [Lib.join_nil]
theorem joinB_one (x sep : ByteArray) : joinB [x] sep = x := by
  unfold joinB
  apply ByteArray.ext
  simp [Lib.join_cons, Lib.joinTail]
theorem joinB_snoc (l : List ByteArray) (x sep : ByteArray) (h : l ≠ []) : joinB (l ++ [x]) sep = joinB l sep ++ sep ++ x := by
  cases l with
  | nil => exact absurd rfl h
  | cons a l =>
    unfold joinB
    apply ByteArray.ext
    apply Array.toList_inj.1
    rw [ByteArray.data_append, ByteArray.data_append, Array.toList_append, Array.toList_append]
    simp only [List.cons_append, List.map_cons, List.map_append, List.map_nil, Lib.join_cons, joinTail_snoc, List.append_assoc]
def wtxt (l : List CondI) : ByteArray := if l = [] then ⟨#[]⟩ else bWhere ++ joinB (l.map condT) bAnd
theorem empty_app (a : ByteArray) : (⟨#[]⟩ : ByteArray) ++ a = a := by
  apply ByteArray.ext
  simp
theorem app_empty (a : ByteArray) : a ++ (⟨#[]⟩ : ByteArray) = a := by
  apply ByteArray.ext
  simp
theorem wtxt_first (c : CondI) : wtxt ([] ++ [c]) = bWhere ++ condT c := by
  unfold wtxt
  rw [if_neg (by simp)]
  simp [joinB_one]
theorem wtxt_snoc (l : List CondI) (c : CondI) (h : l ≠ []) : wtxt (l ++ [c]) = wtxt l ++ bAnd ++ condT c := by
  unfold wtxt
  rw [if_neg (by simp), if_neg h, List.map_append, List.map_cons, List.map_nil, joinB_snoc _ _ _ (by simpa using h)]
  simp only [ByteArray.append_assoc]
theorem ctxt_first (c : ColI) : joinB (([] ++ [c]).map colT) bComma = colT c := by simp [joinB_one]
theorem ctxt_snoc (l : List ColI) (c : ColI) (h : l ≠ []) : joinB ((l ++ [c]).map colT) bComma = joinB (l.map colT) bComma ++ bComma ++ colT c := by
  rw [List.map_append, List.map_cons, List.map_nil, joinB_snoc _ _ _ (by simpa using h)]
theorem ctxt_size (l : List ColI) (h : ∀ c ∈ l, fitC c = true) (hl : l.length ≤ 16) : (joinB (l.map colT) bComma).size ≤ 448 := by
  have := joinB_size (l.map colT) bComma 26 (by intro x hx; obtain ⟨c, hc, rfl⟩ := List.mem_map.1 hx; exact colT_size (h c hc))
  rw [List.length_map] at this
  have e : bComma.size = 2 := rfl
  have h2 : l.length * (bComma.size + 26) ≤ 16 * 28 := Nat.mul_le_mul hl (by omega)
  exact Nat.le_trans this h2
theorem wtxt_size (l : List CondI) (h : ∀ c ∈ l, fitD c = true) (hn : ∀ c ∈ l, -lim63 ≤ c.num ∧ c.num < lim63) (hl : l.length ≤ 16) : (wtxt l).size ≤ 887 := by
  have := joinB_size (l.map condT) bAnd 50 (by intro x hx; obtain ⟨c, hc, rfl⟩ := List.mem_map.1 hx; exact condT_size (h c hc) (hn c hc))
  rw [List.length_map] at this
  have e : bAnd.size = 5 := rfl
  have h2 : l.length * (bAnd.size + 50) ≤ 16 * 55 := Nat.mul_le_mul hl (by omega)
  have e7 : bWhere.size = 7 := rfl
  unfold wtxt
  split
  · exact Nat.zero_le _
  · rw [ByteArray.size_append]
    omega
theorem prt2_w (q : QI) : prt2 q = prt1 q ++ wtxt q.whr := by
  unfold prt2 wtxt
  split
  · rw [app_empty]
  · rfl
end Go.Proofs.YtkpholfdjgdjnaaGreatDoor
