/- Texts of the claim, joined: X7. -/
import Derived.Test.YtkpholfdjgdjnaaGreatDoorM17
namespace Go.Proofs.YtkpholfdjgdjnaaGreatDoor
open Go Go.RowKit Go.Proofs Go.Shelf Go.Sort
theorem ext_below {a w w' : World} {B : Nat} (h : Ext [] a w) (k : Below B w w') (hB : a.heap.size ≤ B) : Ext [] a w' :=
  ⟨k.os.trans h.os, k.tape.trans h.tape, k.output.trans h.output, Nat.le_trans h.size k.size, fun i hi hS => (k.block i (by omega)).trans (h.block i hi hS)⟩
theorem pwrite (B b : Nat) (bs : List Value) (s : ByteArray) (w : World) (h : Lib.IsBuilderF 130 5 B b bs w) (hlen : bs.length + s.size ≤ 140737488355328) (hBw : B ≤ w.heap.size) :
    Calls Tryz.prog 63 #[.pointer (some ⟨b, 0, none⟩), .string s] w fun e w' => e = .returned (.tuple #[.int .i64 s.size, .nilIface]) ∧ (Lib.BuilderAtF 130 5 B b (.pointer (some ⟨b, 0, none⟩)) (bs ++ Lib.strCells s) w' ∧ Below B w w' ∧ Lib.OthersKept 5 (some b) w w') :=
  Any.Builder_WriteString_k (P := Tryz.prog) (ρ := Tryz.lays156_ren) { Tryz.lays156 with } Tryz.Builder_Extra_156 B b bs s w h hlen hBw
theorem line_cells_at {W : World} {base n gl c : Nat} {l : List (Option Int)} (h : W.ownsRow base 118 2 (.slice (some ⟨gl, 0, none⟩) n c) n (l.flatMap cellV)) (k : Nat) (x : Option Int) (hx : l[k]? = some x) :
    W.cell? ⟨gl, k * 2, none⟩ = some (.bool x.isSome) ∧ W.cell? ⟨gl, k * 2 + 1, none⟩ = some (.int .i64 (x.getD 0)) := by
  obtain ⟨h0, h1⟩ := cellV_at l k (getElem?_lt hx)
  rw [hx] at h0 h1
  have c0 := h.cells (g := gl) rfl _ _ h0
  have c1 := h.cells (g := gl) rfl _ _ h1
  rw [add_at, Nat.zero_add] at c0 c1
  exact ⟨c0, c1⟩
set_option maxRecDepth 100000 in
set_option maxHeartbeats 4000000 in
theorem ptext_calls (w : World) (s : ByteArray) (z : QZ) (hz : parseZ s = .ok z) (henv : Env w) (Ns : List NV) (ups : List Bool) (vN vU : Value) (aD : Option Addr) (nD cD : Nat) (i3 : Int) (a4 : Option Addr) (n4 c4 : Nat) (a5 : Option Addr) (n5 c5 : Nat) (i6 : Int) (f : NV → ColI → Option Int)
    (hN : Row w vN Ns.length (Ns.flatMap NV.cells)) (hU : Row w vU ups.length (ups.flatMap upV)) (hlen : ups.length = Ns.length) (h16 : Ns.length ≤ 16) (hnum : ∀ c ∈ z.i.whr, -lim63 ≤ c.num ∧ c.num < lim63)
    (hf : ∀ N ∈ Ns, ∀ c ∈ z.i.cols ++ z.i.whr.map CondI.col, CellOk w N (f N) c) (hr : ∀ N ∈ Ns, ∀ c n, f N c = some n → -lim63 ≤ n ∧ n < lim63) :
    Calls Tryz.prog 21 #[.agg #[vN, vU, .slice aD nD cD, .int .i64 i3, .slice a4 n4 c4, .slice a5 n5 c5, .int .i64 i6], .string s] w
      fun e w' => e = .returned (.string ⟨(textL (runI f z.i (Ns.zip ups))).toArray⟩) ∧ Ext [] w w' := by
  obtain ⟨i0, hi, hz0, hz1, hz2⟩ := info_parts Tryz.info9
  obtain ⟨AN, capN, rfl, hnN⟩ := Row.shape hN
  obtain ⟨AU, capU, rfl, hnU⟩ := Row.shape hU
  have HN := Lib.hid hN
  have HU := Lib.hid hU
  have HF := Lib.hid hf
  have HL := Lib.hid hlen
  have HR := Lib.hid (run_ok (f := f) (q := z.i) (ups := ups) hr)
  have hTl : (runI f z.i (Ns.zip ups)).length ≤ 16 := by
    have := runI_length f z.i (Ns.zip ups)
    rw [List.length_zip] at this
    omega
  have HEnv := Lib.hid henv
  have HP : Hid (∀ W, Env W → Calls Tryz.prog 8 #[.string s] W fun x w' => ∃ vC vW, x = .returned (.tuple #[.agg #[vC, vW, .int .i64 z.srt, .int .i64 z.lim], .agg #[.int .i64 0, .int .i64 0]]) ∧ QAt w' vC vW z.i ∧ Ext [] W w') := by
    intro W hW
    refine (pparse_calls s W hW).mono ?_
    rintro x w' ⟨E, h⟩
    rw [hz] at h
    obtain ⟨vC, vW, rfl, h1, h2⟩ := h
    refine ⟨vC, vW, rfl, ⟨?_, ?_, hnum⟩, E⟩
    · have := Row.of_own h1
      rw [colsV_i] at this
      simpa [QZ.i] using this
    · have := Row.of_own h2
      rw [condsV_i] at this
      simpa [QZ.i] using this
  clear hN hU hf hr hlen henv hnum hz
  have hHrun : Hid (∀ (W : World) (vC vW : Value), Ext [] w W → QAt W vC vW z.i → Calls Tryz.prog 19 #[.agg #[.slice AN Ns.length capN, .slice AU ups.length capU, .slice aD nD cD, .int .i64 i3, .slice a4 n4 c4, .slice a5 n5 c5, .int .i64 i6], .agg #[vC, vW, .int .i64 z.srt, .int .i64 z.lim]] W
      fun e w' => ∃ v, e = .returned v ∧ Ext [] W w' ∧ TableAt w' W.heap.size v (runI f z.i (Ns.zip ups))) := fun W vC vW e hq =>
    prun_calls W Ns ups _ _ aD nD cD i3 a4 n4 c4 a5 n5 c5 i6 z.i vC vW f (HN.out.keep e) (HU.out.keep e) HL.out h16 hq (fun N hN c hc => (HF.out N hN c hc).ext e)
  generalize runI f z.i (Ns.zip ups) = T at *
  clear HF HL HN HU
  have Bw := Blk.new w [.slice AN Ns.length capN, .slice AU ups.length capU, .slice aD nD cD, .int .i64 i3, .slice a4 n4 c4, .slice a5 n5 c5, .int .i64 i6] 46
  have HB := Lib.hid Bw
  clear Bw
  go_enter Tryz.func21, Tryz.ntmps21
  go_upto_region 5 with (go_at_call 8; refine (HP.out _ (HEnv.out.ext ((Ext.refl [] w).alloc _))).mono ?_; rintro e w1 ⟨vC, vW, rfl, hq, E1⟩; obtain ⟨AC, capC, rfl, _⟩ := Row.shape hq.rowC; obtain ⟨AW, capW, rfl, _⟩ := Row.shape hq.rowW; have HQ := Lib.hid hq; clear hq; have B1 := Lib.hid (HB.out.ext E1 (by simp)); have Ew : Ext [] w w1 := ((Ext.refl [] w).alloc (.cells #[.slice AN Ns.length capN, .slice AU ups.length capU, .slice aD nD cD, .int .i64 i3, .slice a4 n4 c4, .slice a5 n5 c5, .int .i64 i6] 46)).trans E1)
  have BQ := ((Blk.new w1 [.slice AC z.i.cols.length capC, .slice AW z.i.whr.length capW, .int .i64 z.srt, .int .i64 z.lim] 25).alloc (.cells #[.int .i64 0, .int .i64 0] 28)).alloc (.cells #[.pointer none, .slice none 0 0] 130)
  have Ea : Ext [] w1 (((w1.alloc (.cells [.slice AC z.i.cols.length capC, .slice AW z.i.whr.length capW, .int .i64 z.srt, .int .i64 z.lim].toArray 25)).alloc (.cells #[.int .i64 0, .int .i64 0] 28)).alloc (.cells #[.pointer none, .slice none 0 0] 130)) := (((Ext.refl [] w1).alloc _).alloc _).alloc _
  have BB := Blk.new ((w1.alloc (.cells [.slice AC z.i.cols.length capC, .slice AW z.i.whr.length capW, .int .i64 z.srt, .int .i64 z.lim].toArray 25)).alloc (.cells #[.int .i64 0, .int .i64 0] 28)) [.pointer none, .slice none 0 0] 130
  have hsza : (((w1.alloc (.cells [.slice AC z.i.cols.length capC, .slice AW z.i.whr.length capW, .int .i64 z.srt, .int .i64 z.lim].toArray 25)).alloc (.cells #[.int .i64 0, .int .i64 0] 28)).alloc (.cells #[.pointer none, .slice none 0 0] 130)).heap.size = w1.heap.size + 1 + 1 + 1 := by simp
  rw [World.size_alloc, World.size_alloc] at BB
  generalize (((w1.alloc (.cells [.slice AC z.i.cols.length capC, .slice AW z.i.whr.length capW, .int .i64 z.srt, .int .i64 z.lim].toArray 25)).alloc (.cells #[.int .i64 0, .int .i64 0] 28)).alloc (.cells #[.pointer none, .slice none 0 0] 130)) = wa at *
  have BW := B1.out.ext Ea (by simp)
  obtain ⟨c0, c1, c2, c3, c4', c5', c6⟩ := BW.seven
  have q0 := BQ.cell 0
  have q1 := BQ.cell 1
  have q2 := BQ.cell 2
  have q3 := BQ.cell 3
  simp only [List.getElem?_cons_zero, List.getElem?_cons_succ] at q0 q1 q2 q3
  have hw1 : w.heap.size ≤ w1.heap.size := Ew.size
  have Ewa := Ew.trans Ea
  have hRun := Lib.hid (hHrun.out wa _ _ Ewa (HQ.out.keep Ea))
  have hbw : w.heap.size ≤ w1.heap.size + 1 + 1 := by omega
  generalize w1.heap.size + 1 + 1 = b at *
  clear BQ HQ HP hHrun HB B1 BW E1 Ea Ew
  go_wp2_with (go_at_call 19; refine hRun.out.mono ?_; rintro e w2 ⟨v, rfl, E2, hT⟩; obtain ⟨Ao, po, rfl⟩ := hT.shape; have HT := Lib.hid (hT.base (show b + 1 ≤ _ by omega)); have BB2 := Lib.hid (BB.ext E2 (by simp)); clear hT)
  clear c0 c1 c2 c3 c4' c5' c6 q0 q1 q2 q3
  have Ew2 := Ewa.trans E2
  go_loopw [36] (fun i wr => ∃ k : Nat, i = .int .i64 k ∧ k ≤ T.length ∧ Ext [] w wr ∧ TableAt wr (b + 1) (.slice Ao T.length po) T ∧ Lib.IsBuilderF 130 5 b b (Lib.byteCells (textL (T.take k))) wr ∧ b < wr.heap.size) (fun i _ => T.length - (intOf i).toNat)
  case atStart =>
    refine ⟨0, rfl, by omega, Ew2, HT.out, ?_, BB2.out.lt⟩
    exact .inl ⟨Nat.le_refl _, .slice none 0 0, BB2.out, World.ownsRowF_nil _ _ _ _, by simp [Value.ownBlock]⟩
  case round =>
    obtain ⟨k, rfl, hk, E, hTb, hBu, hbl⟩ := hrel
    by_cases hlt : k < T.length
    · obtain ⟨l, hl⟩ : ∃ l, T[k]? = some l := ⟨_, List.getElem?_eq_getElem hlt⟩
      obtain ⟨g, cap, lv, he, hg, hlv⟩ := hTb.get k l hl
      have hok := Lib.hid (HR.out l (List.mem_of_getElem? hl))
      have hl1 := hok.out.1
      have hl2 := hok.out.2.1
      have HLk := Lib.hid hl
      simp only [Value.slice.injEq, true_and] at he
      obtain ⟨rfl, rfl⟩ := he
      obtain ⟨gl, cl, rfl, _, _⟩ := hlv.form (by omega)
      have HLv := Lib.hid hlv
      have HTb := Lib.hid hTb
      have HBu := Lib.hid hBu
      clear hTb hBu hlv hl
      go_wp2_with fail
      obtain ⟨wo, rfl⟩ : ∃ wo : World, wo = wr := ⟨_, rfl⟩
      go_loopw [10, 42] (fun v i W => ∃ k2 : Nat, i = .int .i64 k2 ∧ k2 ≤ l.length ∧ Ext [] wo W ∧ strs W wo.heap.size v ((l.take k2).map wordT)) (fun _ i _ => l.length - (intOf i).toNat)
      case atStart => exact ⟨0, rfl, by omega, Ext.refl _ _, World.ownsRow_nil _ _ _ _⟩
      case round =>
        obtain ⟨k2, rfl, hk2, E6, row⟩ := hrel
        by_cases hlt2 : k2 < l.length
        · obtain ⟨x, hx⟩ : ∃ x, l[k2]? = some x := ⟨_, List.getElem?_eq_getElem hlt2⟩
          obtain ⟨d0, d1⟩ := line_cells_at (ownsRow_ext HLv.out E6 (by simp)) k2 x hx
          have Hx := Lib.hid hx
          have hlk : ((l.take k2).map wordT).length = k2 := by simp; omega
          have hsz := E6.size
          have Hrow := Lib.hid row
          clear row hx
          rcases x with _ | n
          · simp only [Option.isSome_none, Option.getD_none] at d0 d1
            have row0 := Hrow.out.alloc (.cells #[.bool false, .int .i64 0] 118)
            go_wp2_with (at_builtin; refine wpList_append_own _ rfl _ _ 91 rfl wo.heap.size 9 i0 _ 1 16 Tryz.underlying91 hi hz0 hz1 hz2 rfl (by decide) _ _ _ rfl (row0.alloc _) ⟨_, 0, none⟩ 1 1 [.string (wordT none)] rfl rfl ?c1 ?c2 ?c3 ?c4 ?c5 ?_; (case c1 => (have cn := cells_new (wr.alloc (.cells #[.bool false, .int .i64 0] 118)) [.string (wordT none)] 9; rw [World.size_alloc] at cn; exact cn)); (case c2 => simp [Value.oneCell']); (case c3 => unfold maxLen; omega); (case c4 => omega); (case c5 => simp; omega); intro v' w6 hown' hgrow _)
            go_roundw
            case rel =>
              refine ⟨k2 + 1, by go_num, by omega, ((E6.alloc _).alloc _).grown hgrow (by intro b hb; exact .inr ((row0.lt b hb).1)), ?_⟩
              unfold strs
              rw [take_snoc Hx.out]
              simpa using hown'
            case measure => simp [intOf]; omega
          · simp only [Option.isSome_some, Option.getD_some] at d0 d1
            have hn := Lib.hid (hok.out.2.2 n (List.mem_of_getElem? Hx.out))
            have hen := Lib.hid (HEnv.out.ext ((E.trans E6).alloc (.cells #[.bool true, .int .i64 n] 118)))
            go_wp2_with (first
              | (go_at_call 42; refine (num_calls n _ hen.out hn.out).mono ?_; rintro e w5 ⟨rfl, E7⟩; have E8 : Ext [] wr w5 := ((Ext.refl [] wr).alloc _).trans E7; have row5 := ownsRow_ext Hrow.out E8 (by simp); have hsz5 := E8.size)
              | (at_builtin; refine wpList_append_own _ rfl _ _ 91 rfl wo.heap.size 9 i0 _ 1 16 Tryz.underlying91 hi hz0 hz1 hz2 rfl (by decide) _ _ _ rfl (row5.alloc _) ⟨w5.heap.size, 0, none⟩ 1 1 [.string (wordT (some n))] rfl rfl ?c1 ?c2 ?c3 ?c4 ?c5 ?_; (case c1 => exact cells_new _ _ _); (case c2 => simp [Value.oneCell']); (case c3 => unfold maxLen; omega); (case c4 => omega); (case c5 => simp; omega); intro v' w6 hown' hgrow _))
            go_roundw
            case rel =>
              refine ⟨k2 + 1, by go_num, by omega, ((E6.trans E8).alloc _).grown hgrow (by intro b hb; exact .inr ((row5.lt b hb).1)), ?_⟩
              unfold strs
              rw [take_snoc Hx.out]
              simpa using hown'
            case measure => simp [intOf]; omega
        · obtain rfl : k2 = l.length := by omega
          rw [List.take_length] at row
          unfold strs at row
          have hlw : (l.map wordT).length = l.length := List.length_map _
          rw [hlw] at row
          obtain ⟨gw, cw, rfl, hJ⟩ := join_own (l.map wordT) row hlw.symm (by omega) (by omega) bsp 20 (by decide) (by decide) (word_size hok.out)
          have HJ := Lib.hid hJ
          have hts := text_size (T.take k) (fun x hx => HR.out x (List.mem_of_mem_take hx))
          have htl : (T.take k).length ≤ 16 := by rw [List.length_take]; omega
          have hls := line_size hok.out
          have hjs : (joinB (l.map wordT) bsp).size ≤ 400 := by
            have := hls
            unfold lineT at this
            rw [ByteArray.size_append] at this
            omega
          have HLn := Lib.hid (show lineT l = joinB (l.map wordT) bsp ++ bNl from rfl)
          clear hJ row
          generalize joinB (l.map wordT) bsp = J at *
          go_wp2_with (first
            | (go_at_call 43; refine HJ.out.mono ?_; rintro e w8 ⟨rfl, E8⟩; have F8 : Ext [] wo w8 := E6.trans E8; have hsz8 := F8.size)
            | (go_at_call 63; refine (pwrite b b _ (J ++ bNl) _ (builder_ext HBu.out F8) (by rw [Lib.byteCells_length, ← HLn.out]; omega) (by omega)).mono ?_; rintro e w9 ⟨rfl, hb9, bel, oth⟩))
          go_roundw
          case rel =>
            refine ⟨k + 1, by go_num, by omega, ext_below (E.trans F8) bel hbw, (HTb.out.ext (S := []) F8 (by simp)).others oth (by omega), .inr ?_, by have := bel.size; omega⟩
            rw [text_snoc HLk.out, Lib.byteCells_append, HLn.out, ← Lib.strCells_eq]
            exact hb9
          case measure => simp [intOf]; omega
    · obtain rfl : k = T.length := by omega
      rw [List.take_length] at hBu
      have HBu := Lib.hid hBu
      clear hTb hBu
      go_wp2_with (go_at_call 64; refine (Tryz.Builder_String_any_k b b _ _ HBu.out (by omega)).mono ?_; rintro e w9 ⟨rfl, _, bel, oth⟩)
      go_ret
      exact ⟨rfl, ext_below E bel hbw⟩
end Go.Proofs.YtkpholfdjgdjnaaGreatDoor
