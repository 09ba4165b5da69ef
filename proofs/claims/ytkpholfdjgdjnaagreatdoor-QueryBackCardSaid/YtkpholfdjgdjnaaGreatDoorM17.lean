/- Texts of the claim, joined: X5 X6. -/
import Derived.Test.YtkpholfdjgdjnaaGreatDoorM16
import Derived.Lib.OthersKept
namespace Go.Proofs.YtkpholfdjgdjnaaGreatDoor
open Go Go.RowKit Go.Proofs Go.Shelf Go.Sort
def upV (b : Bool) : List Value := [.bool b]
def lineOf (f : NV → ColI → Option Int) (q : QI) (x : NV × Bool) : List (List (Option Int)) :=
  if x.2 && q.whr.all (fun c => meetsI (f x.1 c.col) c.cmp c.num) then [q.cols.map (f x.1)] else []
def linesI (f : NV → ColI → Option Int) (q : QI) (l : List (NV × Bool)) : List (List (Option Int)) := l.flatMap (lineOf f q)
def sortI (srt : Int) (T : List (List (Option Int))) : List (List (Option Int)) :=
  if srt = 0 then T else if srt < 0 then sortL (-srt - 1).toNat (-1) T else sortL (srt - 1).toNat 1 T
def limI (lim : Int) (T : List (List (Option Int))) : List (List (Option Int)) := if 0 < lim then T.take lim.toNat else T
def runI (f : NV → ColI → Option Int) (q : QI) (l : List (NV × Bool)) : List (List (Option Int)) := if fitI q then limI q.lim (sortI q.srt (linesI f q l)) else []
theorem lines_snoc {f : NV → ColI → Option Int} {q : QI} {l : List (NV × Bool)} {k : Nat} {x : NV × Bool} (h : l[k]? = some x) : linesI f q (l.take (k + 1)) = linesI f q (l.take k) ++ lineOf f q x := by
  unfold linesI
  rw [List.take_add_one, h, List.flatMap_append]
  simp
theorem line_len {f : NV → ColI → Option Int} {q : QI} {l : List (NV × Bool)} : ∀ x ∈ linesI f q l, x.length = q.cols.length := by
  intro x hx
  unfold linesI at hx
  rw [List.mem_flatMap] at hx
  obtain ⟨y, _, hy⟩ := hx
  unfold lineOf at hy
  split at hy
  · rw [List.mem_singleton] at hy
    subst hy
    simp
  · cases hy
theorem lines_le (f : NV → ColI → Option Int) (q : QI) : ∀ (l : List (NV × Bool)), (linesI f q l).length ≤ l.length
  | [] => by simp [linesI]
  | x :: l => by
    have h1 := lines_le f q l
    have h2 : (lineOf f q x).length ≤ 1 := by unfold lineOf; split <;> simp
    show (lineOf f q x ++ linesI f q l).length ≤ l.length + 1
    rw [List.length_append]
    omega
theorem TableAt.len {W : World} {base n : Nat} {A : Option Addr} {cap : Nat} {T : List (List (Option Int))} (h : TableAt W base (.slice A n cap) T) : n = T.length := by
  obtain ⟨A', cap', he⟩ := h.shape
  simp only [Value.slice.injEq] at he
  exact he.2.1
theorem TableAt.cap {W : World} {base n : Nat} {A : Option Addr} {cap : Nat} {T : List (List (Option Int))} (h : TableAt W base (.slice A n cap) T) : n ≤ cap ∧ cap ≤ maxLen ∧ (A = none → n = 0 ∧ cap = 0) := by
  obtain ⟨d, h1, h2, h3⟩ := h
  rcases h2.2 with ⟨he, h0⟩ | ⟨g, cap', cur, he, hb, hg, k1, k2, k3, k4⟩
  · simp only [Value.slice.injEq] at he
    obtain ⟨rfl, rfl, rfl⟩ := he
    exact ⟨Nat.le_refl _, Nat.zero_le _, fun _ => ⟨rfl, rfl⟩⟩
  · simp only [Value.slice.injEq] at he
    obtain ⟨rfl, rfl, rfl⟩ := he
    exact ⟨k1, k2, fun h => by cases h⟩
theorem TableAt.take {W : World} {base : Nat} {v : Value} {T : List (List (Option Int))} (h : TableAt W base v T) (m : Nat) (h0 : 0 < m) (hm : m ≤ T.length) :
    ∃ g cap, v = .slice (some ⟨g, 0, none⟩) T.length cap ∧ TableAt W base (.slice (some ⟨g, 0, none⟩) m cap) (T.take m) := by
  obtain ⟨d, h1, h2, h3⟩ := h
  have hl : d.length = T.length := by rw [← h1, List.length_map]
  rcases h2.2 with ⟨he, hz⟩ | ⟨g, cap, cur, he, hb, hg, k1, k2, k3, k4⟩
  · omega
  · refine ⟨g, cap, by rw [he, hl], d.take m, by rw [List.map_take, h1], ?_, fun x hx => h3 x (List.mem_of_mem_take hx)⟩
    have hlm : (d.take m).length = m := by rw [List.length_take]; omega
    rw [hlm]
    refine ⟨by rw [List.length_map, hlm]; omega, .inr ⟨g, cap, cur, rfl, hb, hg, by omega, k2, k3, ?_⟩⟩
    rw [List.map_take, ← k4, Nat.mul_one, Nat.mul_one, List.take_take]
    congr 1
    omega
set_option maxRecDepth 100000 in
set_option maxHeartbeats 4000000 in
theorem prun_calls (w : World) (Ns : List NV) (ups : List Bool) (vN vU : Value) (aD : Option Addr) (nD cD : Nat) (i3 : Int) (a4 : Option Addr) (n4 c4 : Nat) (a5 : Option Addr) (n5 c5 : Nat) (i6 : Int) (q : QI) (vC vW : Value) (f : NV → ColI → Option Int)
    (hN : Row w vN Ns.length (Ns.flatMap NV.cells)) (hU : Row w vU ups.length (ups.flatMap upV)) (hlen : ups.length = Ns.length) (h16 : Ns.length ≤ 16) (hq : QAt w vC vW q)
    (hf : ∀ N ∈ Ns, ∀ c ∈ q.cols ++ q.whr.map CondI.col, CellOk w N (f N) c) :
    Calls Tryz.prog 19 #[.agg #[vN, vU, .slice aD nD cD, .int .i64 i3, .slice a4 n4 c4, .slice a5 n5 c5, .int .i64 i6], qV vC vW q] w
      fun e w' => ∃ v, e = .returned v ∧ Ext [] w w' ∧ TableAt w' w.heap.size v (runI f q (Ns.zip ups)) := by
  obtain ⟨i0, hi, hz0, hz1, hz2⟩ := info_parts Tryz.info60
  obtain ⟨j0, hj, hy0, hy1, hy2⟩ := info_parts Tryz.info118
  obtain ⟨AN, capN, hvN, hnN, getN⟩ := Row.at (sz := 8) (fun _ => rfl) (by decide) hN rfl
  obtain ⟨AU, capU, hvU, hnU, getU⟩ := Row.at (sz := 1) (fun _ => rfl) (by decide) hU rfl
  obtain ⟨AC, capC, hvC, hnC, getC⟩ := Row.at (sz := 2) (fun _ => rfl) (by decide) hq.rowC rfl
  obtain ⟨AW, capW, hvW, hnW⟩ := Row.shape hq.rowW
  rw [hlen] at hvU
  have HL := Lib.hid hlen
  clear hlen hnU
  have HQ := Lib.hid hq
  have HNr := Lib.hid hN
  have HF := Lib.hid hf
  have GN := Lib.hid getN
  have GU := Lib.hid getU
  have GC := Lib.hid getC
  clear hq hN hU hf getN getU getC
  obtain ⟨cols, whr, srt, lim⟩ := q
  unfold qV
  dsimp only at *
  subst hvN hvU hvC hvW
  have E1 : Ext [] w ((w.alloc (.cells [.slice AN Ns.length capN, .slice AU Ns.length capU, .slice aD nD cD, .int .i64 i3, .slice a4 n4 c4, .slice a5 n5 c5, .int .i64 i6].toArray 46)).alloc (.cells #[.slice AC cols.length capC, .slice AW whr.length capW, .int .i64 srt, .int .i64 lim] 25)) := ((Ext.refl [] w).alloc _).alloc _
  have B2 := (Blk.new w [.slice AN Ns.length capN, .slice AU Ns.length capU, .slice aD nD cD, .int .i64 i3, .slice a4 n4 c4, .slice a5 n5 c5, .int .i64 i6] 46).alloc (.cells #[.slice AC cols.length capC, .slice AW whr.length capW, .int .i64 srt, .int .i64 lim] 25)
  have B3 := Blk.new (w.alloc (.cells [.slice AN Ns.length capN, .slice AU Ns.length capU, .slice aD nD cD, .int .i64 i3, .slice a4 n4 c4, .slice a5 n5 c5, .int .i64 i6].toArray 46)) [.slice AC cols.length capC, .slice AW whr.length capW, .int .i64 srt, .int .i64 lim] 25
  rw [World.size_alloc] at B3
  have HB2 := Lib.hid B2
  have HB3 := Lib.hid B3
  clear B2 B3
  rcases hfit : fitI ⟨cols, whr, srt, lim⟩ with _ | _
  · have HR := Lib.hid (show runI f ⟨cols, whr, srt, lim⟩ (Ns.zip ups) = [] by unfold runI; rw [hfit]; rfl)
    have HFit := Lib.hid hfit
    clear hfit
    go_enter Tryz.func19, Tryz.ntmps19
    go_wp2_with (go_at_call 12; (refine (pfit_calls ⟨cols, whr, srt, lim⟩ _ _ _ (HQ.out.keep E1)).mono ?_; rw [HFit.out]; rintro e w1 ⟨rfl, E2⟩))
    go_ret
    refine ⟨_, rfl, E1.trans E2, ?_⟩
    rw [HR.out]
    exact TableAt.nil _ _
  · have HFit := Lib.hid hfit
    obtain ⟨hh, hfc, hfd⟩ := fit_parts hfit
    unfold fitHead at hh
    obtain ⟨a1, a2, a3, a4', a5', a6, a7⟩ := hh
    dsimp only at a1 a2 a3 a4' a5' a6 a7
    have HC := Lib.hid hfc
    have HD := Lib.hid hfd
    clear hfit hfc hfd
    go_enter Tryz.func19, Tryz.ntmps19
    go_wp2_with (go_at_call 12; refine (pfit_calls ⟨cols, whr, srt, lim⟩ _ _ _ (HQ.out.keep E1)).mono ?_; rw [HFit.out]; rintro e w1 ⟨rfl, E2⟩; have E3 : Ext [] w w1 := E1.trans E2; have K2 := HB2.out.ext E2 (by simp); have K3 := HB3.out.ext E2 (by simp); have c0 := K2.cell 0; simp only [List.getElem?_cons_zero] at c0)
    clear E1 E2
    go_loopw [5, 19] (fun v i wr => ∃ k : Nat, i = .int .i64 k ∧ k ≤ Ns.length ∧ Ext [] w1 wr ∧ TableAt wr w1.heap.size v (linesI f ⟨cols, whr, srt, lim⟩ ((Ns.zip ups).take k)) ∧ (linesI f ⟨cols, whr, srt, lim⟩ ((Ns.zip ups).take k) = [] → v = .slice none 0 0)) (fun _ i _ => Ns.length - (intOf i).toNat)
    case atStart => exact ⟨0, rfl, by omega, Ext.refl _ _, TableAt.nil _ _, fun _ => rfl⟩
    case round =>
      obtain ⟨k, rfl, hk, E, T, Tn⟩ := hrel
      have HT := Lib.hid T
      have HTn := Lib.hid Tn
      clear T Tn
      by_cases hlt : k < Ns.length
      · obtain ⟨N, hN⟩ : ∃ N, Ns[k]? = some N := ⟨_, List.getElem?_eq_getElem hlt⟩
        obtain ⟨u, hu⟩ : ∃ u, ups[k]? = some u := ⟨_, List.getElem?_eq_getElem (by rw [HL.out]; exact hlt)⟩
        have hx := Lib.hid (show (Ns.zip ups)[k]? = some (N, u) by rw [List.getElem?_zip_eq_some]; exact ⟨hN, hu⟩)
        have hNm : N ∈ Ns := List.mem_of_getElem? hN
        obtain ⟨bN, oN, rfl, hblN, hcell⟩ := GN.out wr (E3.trans E) k N hN
        have d0 := hcell 0 (by decide)
        have d1 := hcell 1 (by decide)
        have d2 := hcell 2 (by decide)
        have d3 := hcell 3 (by decide)
        have d4 := hcell 4 (by decide)
        have d5 := hcell 5 (by decide)
        have d6 := hcell 6 (by decide)
        have d7 := hcell 7 (by decide)
        clear hcell
        obtain ⟨bU, oU, rfl, hblU, hcell⟩ := GU.out wr (E3.trans E) k u hu
        have du := hcell 0 (by decide)
        clear hcell hN hu
        simp only [NV.cells, upV, List.getElem?_cons_zero, List.getElem?_cons_succ, Option.getD_some, Nat.add_zero, Nat.mul_one] at d0 d1 d2 d3 d4 d5 d6 d7 du
        have L2 := (K2.ext E (by simp)).lt
        have L3 := (K3.ext E (by simp)).lt
        have e1 := (K2.ext E (by simp)).cell 1
        have g0 := (K3.ext E (by simp)).cell 0
        have g1 := (K3.ext E (by simp)).cell 1
        simp only [List.getElem?_cons_zero, List.getElem?_cons_succ] at e1 g0 g1
        have hltU : bU < wr.heap.size := by have := cell_lt du; simpa using this
        have BT := Lib.hid (Blk.new wr N.cells 102)
        have EW := Lib.hid ((E3.trans E).alloc (.cells N.cells.toArray 102))
        rcases u with _ | _
        · have HLn := Lib.hid (show lineOf f ⟨cols, whr, srt, lim⟩ (N, false) = [] from rfl)
          go_wp2_with fail
          go_roundw
          case rel =>
            refine ⟨k + 1, by go_num, by omega, E.alloc _, ?_, ?_⟩
            · rw [lines_snoc hx.out, HLn.out, List.append_nil]
              exact HT.out.ext (S := []) ((Ext.refl [] wr).alloc _) (by simp)
            · rw [lines_snoc hx.out, HLn.out, List.append_nil]
              exact HTn.out
          case measure => simp [intOf]; omega
        · have hcon := contains_fails (wr.alloc (.cells N.cells.toArray 102)) wr.heap.size N (f N) (.slice AW whr.length capW) whr (HQ.out.rowW.keep EW.out) (fun c hc => (HF.out N hNm c.col (List.mem_append_right _ (List.mem_map_of_mem hc))).ext EW.out) BT.out
          have HCon := Lib.hid hcon
          clear hcon
          unfold NV.cells at HCon
          rcases hm : whr.all (fun c => meetsI (f N c.col) c.cmp c.num) with _ | _
          · rw [hm] at HCon
            have HLn := Lib.hid (show lineOf f ⟨cols, whr, srt, lim⟩ (N, true) = [] by unfold lineOf; dsimp only; rw [hm]; rfl)
            clear hm
            go_wp2_with (go_at_call 53; refine HCon.out.mono ?_; rintro e w' ⟨rfl, E4⟩)
            go_roundw
            case rel =>
              refine ⟨k + 1, by go_num, by omega, (E.alloc _).trans E4, ?_, ?_⟩
              · rw [lines_snoc hx.out, HLn.out, List.append_nil]
                exact HT.out.ext (S := []) (((Ext.refl [] wr).alloc _).trans E4) (by simp)
              · rw [lines_snoc hx.out, HLn.out, List.append_nil]
                exact HTn.out
            case measure => simp [intOf]; omega
          · rw [hm] at HCon
            have HLn := Lib.hid (show lineOf f ⟨cols, whr, srt, lim⟩ (N, true) = [cols.map (f N)] by unfold lineOf; dsimp only; rw [hm]; rfl)
            clear hm
            have k3 := Lib.hid (Blk.alloc (K3.ext E (by simp)) (.cells N.cells.toArray 102))
            go_wp2_with (go_at_call 53; refine HCon.out.mono ?_; rintro e wo ⟨rfl, E4⟩; have q0 := (k3.out.ext E4 (by simp)).cell 0; simp only [List.getElem?_cons_zero] at q0; have E5 : Ext [] wr wo := ((Ext.refl [] wr).alloc (.cells N.cells.toArray 102)).trans E4; have NB := Lib.hid (BT.out.ext E4 (by simp)))
            clear HCon BT k3 d0 d1 d2 d3 d4 d5 d6 d7 du e1 g0 g1
            obtain ⟨wp, rfl⟩ : ∃ wp : World, wp = wr := ⟨_, rfl⟩
            go_loopw [8, 39] (fun v i W => ∃ k2 : Nat, i = .int .i64 k2 ∧ k2 ≤ cols.length ∧ Ext [] wo W ∧ W.ownsRow wo.heap.size 118 2 v k2 (((cols.take k2).map (f N)).flatMap cellV)) (fun _ i _ => cols.length - (intOf i).toNat)
            case atStart => exact ⟨0, rfl, by omega, Ext.refl _ _, World.ownsRow_nil _ _ _ _⟩
            case round =>
              obtain ⟨k2, rfl, hk2, E6, row⟩ := hrel
              by_cases hlt2 : k2 < cols.length
              · obtain ⟨c, hc⟩ : ∃ c, cols[k2]? = some c := ⟨_, List.getElem?_eq_getElem hlt2⟩
                have EA : Ext [] w wr := ((E3.trans E).trans E5).trans E6
                obtain ⟨bC, oC, rfl, hblC, hcell⟩ := GC.out wr EA k2 c hc
                have d0 := hcell 0 (by decide)
                have d1 := hcell 1 (by decide)
                simp only [colIV, List.getElem?_cons_zero, List.getElem?_cons_succ, Option.getD_some, Nat.add_zero] at d0 d1
                have hcm := List.mem_of_getElem? hc
                have Hc := Lib.hid hc
                clear hc hcell
                have NB2 := NB.out.ext E6 (by simp)
                have nl := NB2.lt
                have m0 : wr.cell? ⟨wp.heap.size, 0, none⟩ = some (.int .i64 N.id) := NB2.cell 0
                have m1 : wr.cell? ⟨wp.heap.size, 1, none⟩ = some (.int .i64 N.boot) := NB2.cell 1
                have m2 : wr.cell? ⟨wp.heap.size, 2, none⟩ = some (.int .i64 N.x2) := NB2.cell 2
                have m3 : wr.cell? ⟨wp.heap.size, 3, none⟩ = some (.slice N.a3 N.n3 N.c3) := NB2.cell 3
                have m4 : wr.cell? ⟨wp.heap.size, 4, none⟩ = some (.int .i64 N.x4) := NB2.cell 4
                have m5 : wr.cell? ⟨wp.heap.size, 5, none⟩ = some (.slice N.a5 N.n5 N.c5) := NB2.cell 5
                have m6 : wr.cell? ⟨wp.heap.size, 6, none⟩ = some (.slice N.a6 N.n6 N.c6) := NB2.cell 6
                have m7 : wr.cell? ⟨wp.heap.size, 7, none⟩ = some (.slice N.a7 N.n7 N.c7) := NB2.cell 7
                have hcon := HF.out N hNm c (List.mem_append_left _ hcm) (wr.alloc (.cells #[.int .i64 c.op, .string c.name] 57)) (EA.alloc _)
                have HCon := Lib.hid hcon
                unfold NV.cells cellV at HCon
                have Hrow := Lib.hid row
                have hsz6 := E6.size
                have hlk : (((cols.take k2).map (f N)).flatMap cellV).length = k2 * 2 := row.1
                clear hcon row NB2
                go_wp2_with (first
                  | (go_at_call 56; refine HCon.out.mono ?_; rintro e w5 ⟨rfl, E7⟩; have E8 : Ext [] wr w5 := ((Ext.refl [] wr).alloc _).trans E7; have row5 := ownsRow_ext Hrow.out E8 (by simp); have hsz5 := E8.size)
                  | (at_builtin; refine wpList_append_own _ rfl _ _ 60 rfl wo.heap.size 118 j0 _ 2 16 Tryz.underlying60 hj hy0 hy1 hy2 rfl (by decide) _ _ _ rfl (row5.alloc _) ⟨w5.heap.size, 0, none⟩ 1 1 (cellV (f N c)) rfl rfl ?c1 ?c2 ?c3 ?c4 ?c5 ?_; (case c1 => exact cells_new _ _ _); (case c2 => simp [cellV, Value.oneCell']); (case c3 => unfold maxLen; omega); (case c4 => omega); (case c5 => simp; omega); intro v' w6 hown' hgrow _))
                go_roundw
                case rel =>
                  refine ⟨k2 + 1, by go_num, by omega, ((E6.trans E8).alloc _).grown hgrow (by intro b hb; exact .inr ((row5.lt b hb).1)), ?_⟩
                  rw [take_snoc Hc.out, List.map_append, List.flatMap_append]
                  simpa using hown'
                case measure => simp [intOf]; omega
              · obtain rfl : k2 = cols.length := by omega
                rw [List.take_length] at row
                obtain ⟨Al, pl, rfl⟩ := ownsRow_shape row
                have hlc : (cols.map (f N)).length = cols.length := List.length_map _
                have Hrow := Lib.hid ((ownsRow_base row (by have := E.size; have := E5.size; omega : w1.heap.size ≤ wo.heap.size)).alloc (.cells #[.slice Al cols.length pl] 60))
                clear row
                have T2 := HT.out.ext (S := []) ((E5.trans E6).alloc (.cells #[.slice Al cols.length pl] 60)) (by simp)
                obtain ⟨xs, hxs, hadd⟩ := T2.row
                obtain ⟨Ao, po, rfl⟩ := T2.shape
                have HX := Lib.hid hxs
                have HA := Lib.hid hadd
                have hTl : (linesI f ⟨cols, whr, srt, lim⟩ ((Ns.zip ups).take k)).length ≤ 16 := by
                  have h1 := lines_le f ⟨cols, whr, srt, lim⟩ ((Ns.zip ups).take k)
                  rw [List.length_take] at h1
                  omega
                have hsz6 := ((E.trans E5).trans E6).size
                clear T2 hxs hadd
                go_wp2_with (at_builtin; refine wpList_append_own _ rfl _ _ 50 rfl w1.heap.size 60 i0 _ 1 24 Tryz.underlying50 hi hz0 hz1 hz2 rfl (by decide) _ _ _ rfl HX.out ⟨wr.heap.size, 0, none⟩ 1 1 [.slice Al cols.length pl] rfl rfl ?c1 ?c2 ?c3 ?c4 ?c5 ?_; (case c1 => exact cells_new _ _ _); (case c2 => simp [Value.oneCell']); (case c3 => unfold maxLen; omega); (case c4 => omega); (case c5 => simp; omega); intro v' w6 hown' hgrow hne)
                go_roundw
                case rel =>
                  have hx2 := lines_snoc (f := f) (q := ⟨cols, whr, srt, lim⟩) hx.out
                  rw [HLn.out] at hx2
                  refine ⟨k + 1, by go_num, by omega, (((E.trans E5).trans E6).alloc _).grown hgrow (by intro b hb; exact .inr ((HX.out.lt b hb).1)), ?_, ?_⟩
                  · rw [hx2]
                    exact HA.out _ _ _ _ (by rw [hlc]; exact Hrow.out) hown' hgrow
                  · rw [hx2]
                    intro h
                    simp at h
                case measure => simp [intOf]; omega
      · obtain rfl : k = Ns.length := by omega
        have hzl : (Ns.zip ups).take Ns.length = Ns.zip ups := List.take_of_length_le (by rw [List.length_zip, HL.out]; omega)
        rw [hzl] at HT HTn
        have hTl : (linesI f ⟨cols, whr, srt, lim⟩ (Ns.zip ups)).length ≤ 16 := by
          have h1 := lines_le f ⟨cols, whr, srt, lim⟩ (Ns.zip ups)
          rw [List.length_zip, HL.out] at h1
          omega
        have hTc : Hid (∀ x ∈ linesI f ⟨cols, whr, srt, lim⟩ (Ns.zip ups), x.length = cols.length) := line_len
        have HR := Lib.hid (show runI f ⟨cols, whr, srt, lim⟩ (Ns.zip ups) = limI lim (sortI srt (linesI f ⟨cols, whr, srt, lim⟩ (Ns.zip ups))) by unfold runI; rw [HFit.out]; rfl)
        generalize linesI f ⟨cols, whr, srt, lim⟩ (Ns.zip ups) = T at *
        clear hzl HF GN GU GC HNr HQ HB2 HB3 HC HD
        obtain ⟨Ao, po, rfl⟩ := HT.out.shape
        have L3 := (K3.ext E (by simp)).lt
        have g2 := (K3.ext E (by simp)).cell 2
        simp only [List.getElem?_cons_zero, List.getElem?_cons_succ] at g2
        have L2 : w.heap.size < wr.heap.size := by omega
        go_upto_if 60 with fail
        have B1 := (Blk.new wr [.int .i64 (srt - 1)] 3).alloc (.cells #[.int .i64 1] 3)
        have B2 := Blk.new (wr.alloc (.cells [.int .i64 (srt - 1)].toArray 3)) [.int .i64 1] 3
        rw [World.size_alloc] at B2
        have E6 : Ext [] w1 ((wr.alloc (.cells [.int .i64 (srt - 1)].toArray 3)).alloc (.cells #[.int .i64 1] 3)) := (E.alloc _).alloc _
        have Er : Ext [] wr ((wr.alloc (.cells [.int .i64 (srt - 1)].toArray 3)).alloc (.cells #[.int .i64 1] 3)) := ((Ext.refl [] wr).alloc _).alloc _
        have K6 := Lib.hid (K3.ext E6 (by simp))
        have hszw : w1.heap.size ≤ wr.heap.size := E.size
        have hsw : w.heap.size + 1 < w1.heap.size := K3.lt
        generalize ((wr.alloc (.cells [.int .i64 (srt - 1)].toArray 3)).alloc (.cells #[.int .i64 1] 3)) = ws at *
        clear g2 L3 L2
        have g2 := K6.out.cell 2
        simp only [List.getElem?_cons_zero, List.getElem?_cons_succ] at g2
        have hsz6 := Er.size
        have l1 := B1.lt
        have l2 := B2.lt
        go_cut [] (fun W => TableAt W w1.heap.size (.slice Ao T.length po) (sortI srt T) ∧ Ext [] w1 W)
        case first =>
          rcases Int.lt_trichotomy srt 0 with hs | hs | hs
          · obtain ⟨m, rfl⟩ : ∃ m : Nat, srt = -((m : Int) + 1) := ⟨(-srt - 1).toNat, by omega⟩
            have hmc : m < cols.length := by omega
            have hS : sortI (-((m : Int) + 1)) T = sortL m (-1) T := by
              unfold sortI
              rw [if_neg (by omega), if_pos (by omega), show (-(-((m : Int) + 1)) - 1).toNat = m by omega]
            have HS := Lib.hid hS
            clear hS
            have c1 := B1.cell 0
            have c2 := B2.cell 0
            have f1 := B1.frozen 0
            have f2 := B2.frozen 0
            simp only [List.getElem?_cons_zero] at c1 c2
            have X1 := (B1.set 0 (.int .i64 (m : Int))).set_other ⟨wr.heap.size + 1, 0, none⟩ (by simp) (.int .i64 (-1))
            have X2 := (B2.set_other ⟨wr.heap.size, 0, none⟩ (by simp) (.int .i64 (m : Int))).set 0 (.int .i64 (-1))
            have X3 := (Er.setCell ⟨wr.heap.size, 0, none⟩ (.inr (by simp)) (.int .i64 (m : Int))).setCell ⟨wr.heap.size + 1, 0, none⟩ (.inr (by simp)) (.int .i64 (-1))
            simp only [List.set_cons_zero] at X1 X2
            have HS2 := Lib.hid (sort_table _ w1.heap.size cols.length m wr.heap.size (wr.heap.size + 1) (-1) (.slice Ao T.length po) T (HT.out.ext (S := []) X3 (by simp)) hTc.out (.inr rfl) hmc hTl X1 X2 HTn.out (Nat.le_trans hszw X3.size))
            have HX3 := Lib.hid X3
            clear X1 X2 X3
            go_wp2_with (go_at_call 57; refine HS2.out.mono ?_; rintro e w9 ⟨rfl, T9, x, hx, E9⟩)
            go_meet
            case rel => exact ⟨by rw [HS.out]; exact T9, (E.trans HX3.out).step E9 (by simpa using hx)⟩
          · subst hs
            go_wp2_with fail
            go_meet
            case rel => exact ⟨by unfold sortI; rw [if_pos rfl]; exact HT.out.ext (S := []) Er (by simp), E6⟩
          · obtain ⟨m, rfl⟩ : ∃ m : Nat, srt = (m : Int) + 1 := ⟨(srt - 1).toNat, by omega⟩
            have hmc : m < cols.length := by omega
            have hS : sortI ((m : Int) + 1) T = sortL m 1 T := by
              unfold sortI
              rw [if_neg (by omega), if_neg (by omega), show ((m : Int) + 1 - 1).toNat = m by omega]
            have HS := Lib.hid hS
            clear hS
            rw [show (m : Int) + 1 - 1 = m by omega] at B1
            have HS2 := Lib.hid (sort_table _ w1.heap.size cols.length m wr.heap.size (wr.heap.size + 1) 1 (.slice Ao T.length po) T (HT.out.ext (S := []) Er (by simp)) hTc.out (.inl rfl) hmc hTl B1 B2 HTn.out (Nat.le_trans hszw Er.size))
            go_wp2_with (go_at_call 57; refine HS2.out.mono ?_; rintro e w9 ⟨rfl, T9, x, hx, E9⟩)
            go_meet
            case rel => exact ⟨by rw [HS.out]; exact T9, E6.step E9 (by simpa using hx)⟩
        case rest =>
          obtain ⟨TC, EC⟩ := hcut
          have g3 := (K3.ext EC (by simp)).cell 3
          simp only [List.getElem?_cons_zero, List.getElem?_cons_succ] at g3
          have hle : T.length = (sortI srt T).length := TC.len
          rw [hle] at TC
          have hcap := TC.cap
          have HTC := Lib.hid TC
          clear TC B1 B2 Er E6 K6 g2
          generalize sortI srt T = T' at *
          have hw1 : w.heap.size ≤ w1.heap.size := by omega
          by_cases hl : 0 < lim
          · by_cases hm : lim < (T'.length : Int)
            · obtain ⟨m, rfl⟩ : ∃ m : Nat, lim = m := ⟨lim.toNat, by omega⟩
              have hmT : m ≤ T'.length := by omega
              obtain ⟨g, pg, he, hT2⟩ := HTC.out.take m (by omega) (by omega)
              simp only [Value.slice.injEq] at he
              obtain ⟨rfl, _, rfl⟩ := he
              have hmp : m ≤ po := by omega
              have HT2 := Lib.hid hT2
              clear hT2
              have HRl : limI (m : Int) T' = T'.take m := by unfold limI; rw [if_pos hl]; simp
              have HRl2 := Lib.hid HRl
              clear HRl
              have hmin : (min (m : Int) (T'.length : Int)).toNat = m := by omega
              have HM := Lib.hid hmin
              clear hmin
              go_wp2_with fail
              go_ret
              refine ⟨_, rfl, E3.trans EC, ?_⟩
              show TableAt wc w.heap.size (.slice (some ⟨g, 0, none⟩) (min (m : Int) (T'.length : Int)).toNat po) _
              rw [HM.out, HR.out, HRl2.out]
              exact HT2.out.base hw1
            · have HRl : limI lim T' = T' := by unfold limI; rw [if_pos hl, List.take_of_length_le (by omega)]
              have HRl2 := Lib.hid HRl
              clear HRl
              have hmin : (min lim (T'.length : Int)).toNat = T'.length := by omega
              have HM := Lib.hid hmin
              clear hmin
              rcases Ao with _ | ⟨g, o, rest⟩
              · obtain ⟨h1, h2⟩ := hcap.2.2 rfl
                rw [h1] at hle
                have HT0 := HTC.out
                rw [h1, h2] at HT0
                have HT00 := Lib.hid HT0
                clear HT0
                go_wp2_with fail
                go_ret
                refine ⟨_, rfl, E3.trans EC, ?_⟩
                show TableAt wc w.heap.size (.slice none (min lim 0).toNat _) _
                rw [show (min lim 0).toNat = 0 by omega, HR.out, HRl2.out]
                exact HT00.out.base hw1
              · go_wp2_with fail
                go_ret
                refine ⟨_, rfl, E3.trans EC, ?_⟩
                show TableAt wc w.heap.size (.slice _ (min lim (T'.length : Int)).toNat po) _
                rw [HM.out, HR.out, HRl2.out]
                exact HTC.out.base hw1
          · have HRl : limI lim T' = T' := by unfold limI; rw [if_neg hl]
            have HRl2 := Lib.hid HRl
            clear HRl
            go_wp2_with fail
            go_ret
            refine ⟨_, rfl, E3.trans EC, ?_⟩
            rw [HR.out, HRl2.out]
            exact HTC.out.base hw1
end Go.Proofs.YtkpholfdjgdjnaaGreatDoor
namespace Go.Proofs.YtkpholfdjgdjnaaGreatDoor
open Go Go.RowKit Go.Proofs Go.Shelf Go.Sort
section
variable {α : Type} [Inhabited α] (lt : α → α → Bool)
theorem mem_swp (d : Array α) (i j : Nat) (hi : i < d.size) (hj : j < d.size) (x : α) (hx : x ∈ swp d i j) : x ∈ d := by
  unfold swp at hx
  rw [getElem!_pos d i hi, getElem!_pos d j hj] at hx
  rw [Array.mem_iff_getElem] at hx
  obtain ⟨k, hk, he⟩ := hx
  rw [Array.getElem_setIfInBounds (by simpa using hk)] at he
  split at he
  · rw [← he]; exact Array.getElem_mem _
  · rw [Array.getElem_setIfInBounds (by simpa using hk)] at he
    split at he
    · rw [← he]; exact Array.getElem_mem _
    · rw [← he]; exact Array.getElem_mem _
theorem mem_insInner (a : Nat) : ∀ (j : Nat) (d : Array α), j < d.size → ∀ x ∈ insInner lt a j d, x ∈ d
  | 0, d, _, x, h => h
  | j + 1, d, hj, x, h => by
    unfold insInner at h
    split at h
    · exact mem_swp d _ _ hj (by omega) x (mem_insInner a j _ (by rw [size_swp]; omega) x h)
    · exact h
theorem mem_insOuter (a b : Nat) : ∀ (m i : Nat) (d : Array α), b - i ≤ m → b ≤ d.size → ∀ x ∈ insOuter lt a b i d, x ∈ d
  | 0, i, d, h, _, x, hx => by
    rw [insOuter, if_neg (by omega)] at hx
    exact hx
  | m + 1, i, d, h, hb, x, hx => by
    rw [insOuter] at hx
    split at hx
    · exact mem_insInner lt a i d (by omega) x (mem_insOuter a b m (i + 1) _ (by omega) (by rw [insInner_size]; exact hb) x hx)
    · exact hx
end
theorem sortL_mem {at_ : Nat} {sign : Int} {T : List (List (Option Int))} {x : List (Option Int)} (h : x ∈ sortL at_ sign T) : x ∈ T := by
  unfold sortL at h
  rw [Array.mem_toList_iff] at h
  have := mem_insOuter _ 0 T.length _ _ _ (Nat.le_refl _) (by simp) x h
  simpa using this
theorem sortL_length (at_ : Nat) (sign : Int) (T : List (List (Option Int))) : (sortL at_ sign T).length = T.length := by
  unfold sortL
  rw [Array.length_toList, insertionSort_size]
  simp
theorem sortI_mem {srt : Int} {T : List (List (Option Int))} {x : List (Option Int)} (h : x ∈ sortI srt T) : x ∈ T := by
  unfold sortI at h
  split at h
  · exact h
  · split at h <;> exact sortL_mem h
theorem sortI_length (srt : Int) (T : List (List (Option Int))) : (sortI srt T).length = T.length := by
  unfold sortI
  split
  · rfl
  · split <;> exact sortL_length _ _ _
theorem runI_mem {f : NV → ColI → Option Int} {q : QI} {l : List (NV × Bool)} {x : List (Option Int)} (h : x ∈ runI f q l) : fitI q = true ∧ x ∈ linesI f q l := by
  unfold runI at h
  split at h
  · rename_i hf
    refine ⟨hf, ?_⟩
    unfold limI at h
    split at h
    · exact sortI_mem (List.mem_of_mem_take h)
    · exact sortI_mem h
  · cases h
theorem runI_length (f : NV → ColI → Option Int) (q : QI) (l : List (NV × Bool)) : (runI f q l).length ≤ l.length := by
  have h1 := lines_le f q l
  unfold runI limI
  split
  · split
    · rw [List.length_take, sortI_length]; omega
    · rw [sortI_length]; exact h1
  · simp
theorem line_cells {f : NV → ColI → Option Int} {q : QI} {l : List (NV × Bool)} {x : List (Option Int)} (h : x ∈ linesI f q l) : ∃ y ∈ l, x = q.cols.map (f y.1) := by
  unfold linesI at h
  rw [List.mem_flatMap] at h
  obtain ⟨y, hy, hx⟩ := h
  unfold lineOf at hx
  split at hx
  · rw [List.mem_singleton] at hx
    exact ⟨y, hy, hx⟩
  · cases hx
def wordT (x : Option Int) : ByteArray := match x with | none => ⟨#[45]⟩ | some n => itoaB n
def bNl : ByteArray := ⟨#[10]⟩
def lineT (l : List (Option Int)) : ByteArray := joinB (l.map wordT) bsp ++ bNl
def textL (T : List (List (Option Int))) : List UInt8 := T.flatMap fun l => (lineT l).data.toList
def LineOk (l : List (Option Int)) : Prop := 1 ≤ l.length ∧ l.length ≤ 16 ∧ ∀ n, some n ∈ l → -lim63 ≤ n ∧ n < lim63
theorem word_size {l : List (Option Int)} (h : LineOk l) : ∀ x ∈ l.map wordT, x.size ≤ 20 := by
  intro x hx
  rw [List.mem_map] at hx
  obtain ⟨y, hy, rfl⟩ := hx
  rcases y with _ | n
  · decide
  · exact itoaB_size (h.2.2 n hy)
theorem line_size {l : List (Option Int)} (h : LineOk l) : (lineT l).size ≤ 400 := by
  unfold lineT
  rw [ByteArray.size_append]
  have h1 := joinB_size (l.map wordT) bsp 20 (word_size h)
  rw [List.length_map] at h1
  have e1 : bsp.size = 1 := rfl
  have e2 : bNl.size = 1 := rfl
  have h2 : l.length * (bsp.size + 20) ≤ 16 * 21 := Nat.mul_le_mul h.2.1 (by omega)
  omega
theorem text_size : ∀ (T : List (List (Option Int))), (∀ l ∈ T, LineOk l) → (textL T).length ≤ T.length * 400
  | [], _ => by simp [textL]
  | l :: T, h => by
    have h1 := text_size T (fun x hx => h x (List.mem_cons_of_mem _ hx))
    have h2 := line_size (h l (List.mem_cons_self ..))
    have h3 : (lineT l).data.toList.length = (lineT l).size := by rw [Array.length_toList]; rfl
    show ((lineT l).data.toList ++ textL T).length ≤ (T.length + 1) * 400
    rw [List.length_append, h3]
    omega
theorem text_snoc {T : List (List (Option Int))} {k : Nat} {l : List (Option Int)} (h : T[k]? = some l) : textL (T.take (k + 1)) = textL (T.take k) ++ (lineT l).data.toList := by
  unfold textL
  rw [take_snoc h, List.flatMap_append]
  simp
theorem run_ok {f : NV → ColI → Option Int} {q : QI} {Ns : List NV} {ups : List Bool} (hr : ∀ N ∈ Ns, ∀ c n, f N c = some n → -lim63 ≤ n ∧ n < lim63) : ∀ l ∈ runI f q (Ns.zip ups), LineOk l := by
  intro l hl
  obtain ⟨hf, hm⟩ := runI_mem hl
  obtain ⟨y, hy, rfl⟩ := line_cells hm
  obtain ⟨hh, _, _⟩ := fit_parts hf
  unfold fitHead at hh
  obtain ⟨a1, a2, _⟩ := hh
  refine ⟨by simpa using a1, by simpa using a2, fun n hn => ?_⟩
  rw [List.mem_map] at hn
  obtain ⟨c, _, hc⟩ := hn
  exact hr y.1 (List.of_mem_zip hy).1 c n hc
theorem builder_ext {T e : TypeId} {B b : Nat} {bs : List Value} {w w' : World} (h : Lib.IsBuilderF T e B b bs w) (x : Ext [] w w') : Lib.IsBuilderF T e B b bs w' := by
  have hh : ∀ p, Lib.BuilderAtF T e B b p bs w → Lib.BuilderAtF T e B b p bs w' := by
    rintro p ⟨hB, v, hb, hown, hne⟩
    have hl : ∀ k o, w.heap[k]? = some o → w'.heap[k]? = some o := fun k o hk => (x.block k (Array.getElem?_eq_some_iff.1 hk).1 (by simp)).trans hk
    refine ⟨hB, v, hl _ _ hb, ⟨hown.1, ?_⟩, hne⟩
    rcases hown.2 with hn | ⟨g, cap, cur, fz, hv, hb2, hg, rest⟩
    · exact .inl hn
    · exact .inr ⟨g, cap, cur, fz, hv, hb2, hl _ _ hg, rest⟩
  exact h.elim (fun x => .inl (hh _ x)) (fun x => .inr (hh _ x))
theorem owns_others {W W' : World} {base b : Nat} {e : TypeId} {size : Nat} {v : Value} {n : Nat} {xs : List Value} (h : W.ownsRow base e size v n xs) (k : Lib.OthersKept 5 (some b) W W') (he : e ≠ 5) (hb : v.ownBlock ≠ some b) : W'.ownsRow base e size v n xs := by
  refine ⟨h.1, ?_⟩
  rcases h.2 with hn | ⟨g, cap, cur, rfl, hb2, hg, rest⟩
  · exact .inl hn
  · refine .inr ⟨g, cap, cur, rfl, hb2, k g _ hg hb (fun c fz hc => ?_), rest⟩
    simp only [Obj.cells.injEq] at hc
    exact he hc.2.1
theorem TableAt.others {W W' : World} {base b : Nat} {v : Value} {T : List (List (Option Int))} (h : TableAt W base v T) (k : Lib.OthersKept 5 (some b) W W') (hb : b < base) : TableAt W' base v T := by
  obtain ⟨d, h1, h2, h3⟩ := h
  exact ⟨d, h1, owns_others h2 k (by decide) (fun hv => by have := (h2.lt b hv).1; omega), fun x hx => owns_others (h3 x hx) k (by decide) (fun hv => by have := ((h3 x hx).lt b hv).1; omega)⟩
theorem TableAt.get {W : World} {base : Nat} {v : Value} {T : List (List (Option Int))} (h : TableAt W base v T) (k : Nat) (l : List (Option Int)) (hk : T[k]? = some l) :
    ∃ g cap lv, v = .slice (some ⟨g, 0, none⟩) T.length cap ∧ W.cell? ⟨g, k, none⟩ = some lv ∧ W.ownsRow base 118 2 lv l.length (l.flatMap cellV) := by
  obtain ⟨d, h1, h2, h3⟩ := h
  have hl : d.length = T.length := by rw [← h1, List.length_map]
  have hkT := getElem?_lt hk
  obtain ⟨g, cap, hv, _, _⟩ := h2.form (by omega)
  have hd : d[k]? = some d[k] := List.getElem?_eq_getElem (by omega)
  have hs : d[k].2 = l := by
    rw [← h1, List.getElem?_map, hd] at hk
    simpa using hk
  have hc := h2.cells (g := g) (by rw [hv]; rfl) k d[k].1 (by rw [List.getElem?_map, hd]; rfl)
  rw [add_at, Nat.zero_add] at hc
  have h4 := h3 d[k] (List.getElem_mem _)
  rw [hs] at h4
  exact ⟨g, cap, d[k].1, by rw [hv, hl], hc, h4⟩
end Go.Proofs.YtkpholfdjgdjnaaGreatDoor
