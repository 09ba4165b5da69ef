/- Texts of the claim, joined: T4. -/
import Derived.Test.YtkpholfdjgdjnaaGreatDoorM09
import Derived.Test.YtkpholfdjgdjnaaGreatDoorM08
namespace Go.Proofs.YtkpholfdjgdjnaaGreatDoor
open Go Go.RowKit Go.Proofs Go.Shelf
attribute [local go_sem] Oper.semAt_some
def PParsePost (s : ByteArray) (w : World) (x : Ending) (w' : World) : Prop :=
  Ext [] w w' ∧ match parseZ s with
    | .ok q => ∃ vC vW, x = .returned (.tuple #[.agg #[vC, vW, .int .i64 q.srt, .int .i64 q.lim], .agg #[.int .i64 0, .int .i64 0]]) ∧
        w'.ownsRow w.heap.size 57 2 vC q.cols.length (colsV q.cols) ∧ w'.ownsRow w.heap.size 59 4 vW q.whr.length (condsV q.whr)
    | .error (p, c) => x = .returned (.tuple #[.agg #[.slice none 0 0, .slice none 0 0, .int .i64 0, .int .i64 0], .agg #[.int .i64 p, .int .i64 c]])
theorem toList_nil : (⟨#[]⟩ : ByteArray).toList.isEmpty = true := by
  have h2 : (⟨#[]⟩ : ByteArray).toList = [] := by unfold ByteArray.toList; rw [ByteArray.toList.loop]; exact if_neg (by decide)
  rw [h2]
  rfl
theorem toList_ne {s : ByteArray} (h : s ≠ ⟨#[]⟩) : s.toList.isEmpty = false := by
  refine toList_empty ?_
  rcases Nat.eq_zero_or_pos s.size with h0 | h0
  · exfalso
    apply h
    apply ByteArray.ext
    exact Array.eq_empty_of_size_eq_zero h0
  · exact h0
def laid (W : World) (q m : Nat) (a0 a1 a2 a3 b0 b1 : Value) : World := (((((W.setCell ⟨q, 0, none⟩ a0).setCell ⟨q, 1, none⟩ a1).setCell ⟨q, 2, none⟩ a2).setCell ⟨q, 3, none⟩ a3).setCell ⟨m, 0, none⟩ b0).setCell ⟨m, 1, none⟩ b1
theorem laid_post {W : World} {q m : Nat} {q0 q1 q2 q3 m0 m1 : Value} (BQ : Blk W q [q0, q1, q2, q3] 25) (BM : Blk W m [m0, m1] 28) (hne : q ≠ m) (a0 a1 a2 a3 b0 b1 : Value) :
    KeepsOthers W (laid W q m a0 a1 a2 a3 b0 b1) ∧ Blk (laid W q m a0 a1 a2 a3 b0 b1) q [a0, a1, a2, a3] 25 ∧ Blk (laid W q m a0 a1 a2 a3 b0 b1) m [b0, b1] 28 ∧ Ext [q, m] W (laid W q m a0 a1 a2 a3 b0 b1) := by
  unfold laid
  have eq : Ext [q] W ((((W.setCell ⟨q, 0, none⟩ a0).setCell ⟨q, 1, none⟩ a1).setCell ⟨q, 2, none⟩ a2).setCell ⟨q, 3, none⟩ a3) := ((((Ext.refl [q] W).setCell ⟨q, 0, none⟩ (by simp) a0).setCell ⟨q, 1, none⟩ (by simp) a1).setCell ⟨q, 2, none⟩ (by simp) a2).setCell ⟨q, 3, none⟩ (by simp) a3
  have hb := (((BQ.set 0 a0).set 1 a1).set 2 a2).set 3 a3
  refine ⟨(((((KeepsOthers.setCell _ _ _).trans (KeepsOthers.setCell _ _ _)).trans (KeepsOthers.setCell _ _ _)).trans (KeepsOthers.setCell _ _ _)).trans (KeepsOthers.setCell _ _ _)).trans (KeepsOthers.setCell _ _ _), ?_, ?_, ?_⟩
  · exact hb.ext (((Ext.refl [m] _).setCell ⟨m, 0, none⟩ (by simp) b0).setCell ⟨m, 1, none⟩ (by simp) b1) (by simpa using hne)
  · exact ((BM.ext eq (by simpa using fun h => hne h.symm)).set 0 b0).set 1 b1
  · exact ((eq.mono (by simp)).setCell ⟨m, 0, none⟩ (by simp) b0).setCell ⟨m, 1, none⟩ (by simp) b1
theorem laid_below {W : World} {q m n : Nat} (hq : n ≤ q) (hm : n ≤ m) (a0 a1 a2 a3 b0 b1 : Value) : Below n W (laid W q m a0 a1 a2 a3 b0 b1) := by
  unfold laid
  exact ((((((Below.refl n W).setCell (p := ⟨q, 0, none⟩) hq a0).setCell (p := ⟨q, 1, none⟩) hq a1).setCell (p := ⟨q, 2, none⟩) hq a2).setCell (p := ⟨q, 3, none⟩) hq a3).setCell (p := ⟨m, 0, none⟩) hm b0).setCell (p := ⟨m, 1, none⟩) hm b1
theorem keeps_drew {W W' : World} (h : KeepsOthers W W') : KeepsOthers W W'.drew := ⟨h.size, h.same⟩
set_option maxRecDepth 100000 in
set_option maxHeartbeats 2000000 in
theorem pparse_long (n : Nat) (hn : 1 ≤ n) (s : ByteArray) (w : World) (hs : 4096 < s.size) : CallsIn Fence.wide n Tryz.prog 8 #[.string s] w (PParsePost s w) := by
  have hp : Hid (parseZ s = .error (0, 60)) := by unfold Hid parseZ; rw [if_pos hs]
  refine callsIn_of_wp_marks Tryz.func8 rfl trivial ?_ rfl
  simp only [Tryz.ntmps8, List.size_toArray, List.length_cons, List.length_nil, Nat.reduceAdd, Nat.reduceSub, Array.replicate_succ, Array.replicate_zero, List.push_toArray, List.append_toArray, List.nil_append, List.cons_append]
  gi_wp2
  refine ⟨.tuple #[.agg #[.slice none 0 0, .slice none 0 0, .int .i64 0, .int .i64 0], .agg #[.int .i64 0, .int .i64 60]], by simp [results, Tryz.results8, go_sem], ((Ext.refl [] w).alloc _).alloc _, ?_⟩
  rw [hp.out]
  rfl
theorem first_step (w : World) (r a : Nat) (A : Option Addr) (c : Nat) (size : Nat) (L : List Tok) (hb : Blk w r [.func (.func 26) #[] #[.pointer (some ⟨a, 0, none⟩)], .string ⟨#[]⟩, .int .i64 0, .bool false, .int .i64 size] 74) (hA : All w a r L A c) (hne : a < r) (hs : size ≤ 4096) (hB : Based w r a) (hT : ∀ t' ∈ L, TokOk t'.1) :
    Calls Tryz.prog 28 #[.pointer (some ⟨r, 0, none⟩)] w fun e w' => e = .returned (.tuple #[]) ∧ Ext [r, a] w w' ∧ PR w' r a L size := by
  rcases L with _ | ⟨t, L⟩
  · exact step_nil w r a A c size _ _ _ hb hA hne hs hB
  · exact step_cons w r a A c size t L _ _ _ hb hA hne hs hB hT
theorem all_start {W w2 : World} {base : Nat} {A : Option Addr} {cap : Nat} {L : List Tok} (o : Obj) (row : w2.ownsRow base 67 2 (.slice A L.length cap) L.length (toksV L)) (hl : L.length ≤ 4096) (hW : W = (w2.alloc (.cells #[.slice A L.length cap] 68)).alloc o) :
    All W w2.heap.size (w2.heap.size + 1) L A cap := by
  subst hW
  have e : Ext [] w2 ((w2.alloc (.cells #[.slice A L.length cap] 68)).alloc o) := ((Ext.refl [] w2).alloc _).alloc _
  refine ⟨(Blk.new w2 [.slice A L.length cap] 68).alloc _, fun hne => ?_, ?_, hl, by omega⟩
  · have hp := List.length_pos_iff.2 hne
    rcases row.2 with ⟨h1, h2⟩ | ⟨g, cp, cur, h1, hb, hg, rest⟩
    · omega
    · simp only [Value.slice.injEq, true_and] at h1
      obtain ⟨rfl, rfl⟩ := h1
      refine ⟨g, 0, rfl, (Array.getElem?_eq_some_iff.1 hg).1, fun j hj => ?_⟩
      have hc := row.cellAt j (by rw [toksV_length] at hj; exact hj)
      rw [Nat.zero_add]
      rw [List.getElem?_eq_getElem hj] at hc ⊢
      exact e.keeps hc (by simp)
  · rcases row.2 with ⟨h1, h2⟩ | ⟨g, cp, cur, h1, hb, hg, h3, rest⟩
    · omega
    · simp only [Value.slice.injEq, true_and] at h1
      obtain ⟨rfl, rfl⟩ := h1
      exact h3
set_option maxRecDepth 100000 in
set_option maxHeartbeats 4000000 in
theorem pparse_short (n : Nat) (hn : 8 ≤ n) (s : ByteArray) (w : World) (henv : Env w) (hs : s.size ≤ 4096) : CallsIn Fence.wide n Tryz.prog 8 #[.string s] w (PParsePost s w) := by
  have h1 : 1 ≤ n := by omega
  refine callsIn_of_wp_marks Tryz.func8 rfl trivial ?_ rfl
  simp only [Tryz.ntmps8, List.size_toArray, List.length_cons, List.length_nil, Nat.reduceAdd, Nat.reduceSub, Array.replicate_succ, Array.replicate_zero, List.push_toArray, List.append_toArray, List.nil_append, List.cons_append]
  gi_wp2_with (refine ⟨trivial, ?_⟩; gi_at_call 24; refine (tokens_in (n - 1) s _).mono ?_; rintro e w' ⟨rfl, rfl⟩)
  have BQ0 := ((Blk.new w [.slice none 0 0, .slice none 0 0, .int .i64 0, .int .i64 0] 25).alloc (.cells #[.int .i64 0, .int .i64 0] 28)).alloc (.cells #[.string s] 9)
  have BM0 := (Blk.new (w.alloc (.cells #[.slice none 0 0, .slice none 0 0, .int .i64 0, .int .i64 0] 25)) [.int .i64 0, .int .i64 0] 28).alloc (.cells #[.string s] 9)
  have BS0 := Boxed.new ((w.alloc (.cells #[.slice none 0 0, .slice none 0 0, .int .i64 0, .int .i64 0] 25)).alloc (.cells #[.int .i64 0, .int .i64 0] 28)) 9 (.string s)
  have hB0 : Below w.heap.size w (((w.alloc (.cells #[.slice none 0 0, .slice none 0 0, .int .i64 0, .int .i64 0] 25)).alloc (.cells #[.int .i64 0, .int .i64 0] 28)).alloc (.cells #[.string s] 9)) := (((Below.refl _ w).alloc (Nat.le_refl _) _).alloc (by simp) _).alloc (by simp; omega) _
  have hsz : (((w.alloc (.cells #[.slice none 0 0, .slice none 0 0, .int .i64 0, .int .i64 0] 25)).alloc (.cells #[.int .i64 0, .int .i64 0] 28)).alloc (.cells #[.string s] 9)).heap.size = w.heap.size + 3 := by simp
  simp only [World.size_alloc] at BM0 BS0
  obtain ⟨W0, hW0⟩ : ∃ W0, (((w.alloc (.cells #[.slice none 0 0, .slice none 0 0, .int .i64 0, .int .i64 0] 25)).alloc (.cells #[.int .i64 0, .int .i64 0] 28)).alloc (.cells #[.string s] 9)) = W0 := ⟨_, rfl⟩
  rw [hW0] at BQ0 BM0 BS0 hB0 hsz ⊢
  clear hW0
  refine wpIn_rangeFunc_ownH rfl h1 (gf := 66) (lb := #[.pointer (some ⟨w.heap.size + 1 + 1, 0, none⟩)]) rfl trivial (enters_of Tryz.func66 (by kernel_rfl) rfl)
    (tokens_stops (n - 1) (by omega) (w.heap.size + 1 + 1) (w.heap.size + 3) s hs W0 (by omega) (by omega) BS0.cell) belowK_t (belowK_b (by omega)) (Below.refl _ _) (fun _ => rfl)
    (fun pre W => ((∀ t ∈ pre, t.1 ≠ (⟨#[]⟩ : ByteArray)) ∧ Blk W w.heap.size [.slice none 0 0, .slice none 0 0, .int .i64 0, .int .i64 0] 25 ∧ Blk W (w.heap.size + 1) [.int .i64 0, .int .i64 0] 28 ∧ Boxed W (w.heap.size + 1 + 1) 9 (.string s)) ∧ Below w.heap.size w W)
    (fun c pre W => (c = .ret ∧ Blk W w.heap.size [.slice none 0 0, .slice none 0 0, .int .i64 0, .int .i64 0] 25 ∧ ∃ t ∈ pre, t.1 = (⟨#[]⟩ : ByteArray) ∧ Blk W (w.heap.size + 1) [.int .i64 t.2, .int .i64 20] 28) ∧ Below w.heap.size w W)
    (OwnFrom.and (fun s' X Y row hs hg hr => ⟨hs.1, blk_own _ _ _ () X Y row hs.2.1 hg (fun r e => (hr r e).2), blk_own _ _ _ () X Y row hs.2.2.1 hg (fun r e => (hr r e).2), boxed_own _ 9 (fun (_ : Unit) => Value.string s) () X Y row hs.2.2.2 hg (fun r e => (hr r e).2)⟩) (ownFrom_below (Nat.le_refl _) (by omega)))
    (fun c => OwnFrom.and (fun s X Y row hs hg hr => by obtain ⟨e1, e2, t, e3, e4, e5⟩ := hs; exact ⟨e1, blk_own _ _ _ () X Y row e2 hg (fun r e => (hr r e).2), t, e3, e4, blk_own _ _ _ () X Y row e5 hg (fun r e => (hr r e).2)⟩) (ownFrom_below (Nat.le_refl _) (by omega)))
    ⟨⟨by simp, BQ0, BM0, BS0⟩, hB0⟩
    (fun x a' W => ∃ Bx, w.heap.size + 1 < Bx ∧ Blk W Bx [.string x.1, .int .i64 x.2] 67 ∧ a' = { tmps := #[.string s, undef, .pointer (some ⟨w.heap.size, 0, none⟩), .pointer (some ⟨w.heap.size + 1, 0, none⟩), .pointer (some ⟨Bx, 0, none⟩), undef, undef, undef, .string s, .int .i64 s.size, .bool (decide (4096 < (s.size : Int))), undef, undef, .string s, .func (.func 66) #[] #[.pointer (some ⟨w.heap.size + 1 + 1, 0, none⟩)], tokA x, undef, undef, undef, undef, undef, undef, undef, undef, undef, undef, undef, undef, undef, undef, undef, undef, undef, undef, undef, undef, undef, undef], defers := [] })
    (fun x a' _ X Y row hs hg hr => by obtain ⟨Bx, e1, e2, e3⟩ := hs; exact ⟨Bx, e1, blk_own Bx _ 67 () X Y row e2 hg (fun r e => (hr r e).2), e3⟩)
    ?assign ?body ?done ?stop
  case assign =>
    rintro l pre x W K ⟨⟨hne, BQ, BM, BS⟩, hB⟩ hK
    unfold tokA
    dsimp only
    gi_wp2
    have hle := hB.size
    exact hK _ _ ((KeepsOthers.alloc _ _).from _) ((Below.refl _ W).alloc (by have := BS.lt; omega) _) ⟨⟨hne, BQ.alloc _, BM.alloc _, BS.alloc _⟩, hB.alloc hle _⟩ ⟨W.heap.size, BM.lt, Blk.new W [.string x.1, .int .i64 x.2] 67, rfl⟩
  case body =>
    rintro l pre x a' W hl ⟨r, hr⟩ ⟨⟨hne, BQ, BM, BS⟩, hB⟩ ⟨Bx, hBx, bX, rfl⟩ hlt
    have x0 := bX.cell 0
    have x1 := bX.cell 1
    simp only [List.getElem?_cons_zero, List.getElem?_cons_succ] at x0 x1
    have HN := Lib.hid hne
    clear hne
    by_cases hx : x.1 = (⟨#[]⟩ : ByteArray)
    · have hxe : x.1.toList.isEmpty = true := by rw [hx]; exact toList_nil
      have Hx := Lib.hid hx
      clear hx
      gi_wp2
      have q0' := BQ.cell 0
      have q1' := BQ.cell 1
      have q2' := BQ.cell 2
      have q3' := BQ.cell 3
      have f0' := BQ.frozen 0
      have f1' := BQ.frozen 1
      have f2' := BQ.frozen 2
      have f3' := BQ.frozen 3
      have m0' := BM.cell 0
      have m1' := BM.cell 1
      have g0' := BM.frozen 0
      have g1' := BM.frozen 1
      simp only [List.getElem?_cons_zero, List.getElem?_cons_succ] at q0' q1' q2' q3' m0' m1'
      obtain ⟨l1, l2, l3, l4⟩ := laid_post BQ BM (by omega) (.slice none 0 0) (.slice none 0 0) (.int .i64 0) (.int .i64 0) (.int .i64 x.2) (.int .i64 20)
      have l5 := laid_below (W := W) (n := w.heap.size) (Nat.le_refl w.heap.size) (show w.heap.size ≤ w.heap.size + 1 by omega) (.slice none 0 0) (.slice none 0 0) (.int .i64 0) (.int .i64 0) (.int .i64 x.2) (.int .i64 20)
      unfold laid at l1 l2 l3 l4 l5
      have HH := Lib.hid (And.intro (keeps_drew l1) (And.intro l2.drew (And.intro l3.drew l5.drew)))
      clear l1 l2 l3 l4 l5
      gi_region
      all_goals gi_wp2
      all_goals exact ⟨HH.out.1.from _, ⟨rfl, HH.out.2.1, x, List.mem_append.2 (.inr (by simp)), Hx.out, HH.out.2.2.1⟩, hB.trans HH.out.2.2.2⟩
    · have hxe : x.1.toList.isEmpty = false := toList_ne hx
      have Hx := Lib.hid hx
      clear hx
      gi_wp2
      exact ⟨KeepsFrom.refl _ _, Below.refl _ _, ⟨fun t ht => (List.mem_append.1 ht).elim (HN.out t) (fun e => by simp at e; subst e; exact Hx.out), BQ, BM, BS⟩, hB⟩
  case done =>
    rintro D ys W hD rfl ⟨⟨hne, BQ, BM, BS⟩, hB⟩ hK
    obtain ⟨hgood, hlex⟩ := lexP_good hne
    have hq : Hid (parseZ s = pQuery s.size (lex s 0).1) := by
      unfold Hid parseZ
      rw [if_neg (by omega), hgood]
    clear hne BS hgood
    have Hlex := Lib.hid hlex
    clear hlex
    gi_wp2_with (first
      | (refine ⟨trivial, ?_⟩; gi_at_call 24; refine (tokens_in (n - 1) s _).mono ?_; rintro e w1 ⟨rfl, rfl⟩)
      | (refine ⟨trivial, ?_⟩; gi_at_call 25; refine (collect_in (n - 1) (by omega) W.heap.size s hs _ (by simp) (Boxed.new W 9 (.string s)).cell).mono ?_; rintro e w2 ⟨v, rfl, row2, hB2⟩; obtain ⟨A, cap, rfl⟩ := ownsRow_shape row2))
    have EW : Ext [] w W := Ext.of_below hB
    have E2 : Ext [] W w2 := ((Ext.refl [] W).alloc (.cells #[.string s] 9)).trans ((Ext.of_below hB2))
    have hwl := EW.size
    have hwl2 := E2.size
    have hDl := (Array.getElem?_eq_some_iff.1 hK).1
    have hLl : (lexP s 0).length ≤ 4096 := by rw [Hlex.out]; have := (lex_small s 0).2; omega
    have hTok : ∀ t ∈ lexP s 0, TokOk t.1 := by rw [Hlex.out]; exact lex_ok s hs 0
    obtain ⟨W4, hW4⟩ : ∃ W4, W4 = (w2.alloc (Obj.cells #[Value.slice A (lexP s 0).length cap] 68)).alloc (Obj.cells #[Value.func (Fn.func 26) #[] #[Value.pointer (some { block := w2.heap.size, off := 0 })], Value.string { data := #[] }, Value.int IntKind.i64 0, Value.bool false, Value.int IntKind.i64 s.size] 74) := ⟨_, rfl⟩
    have A4 := all_start _ row2 hLl hW4
    have E4 : Ext [] w2 W4 := by rw [hW4]; exact ((Ext.refl [] w2).alloc _).alloc _
    have B4 : Blk W4 (w2.heap.size + 1) [Value.func (Fn.func 26) #[] #[Value.pointer (some { block := w2.heap.size, off := 0 })], Value.string { data := #[] }, Value.int IntKind.i64 0, Value.bool false, Value.int IntKind.i64 s.size] 74 := by
      rw [hW4]
      have := Blk.new (w2.alloc (Obj.cells #[Value.slice A (lexP s 0).length cap] 68)) [Value.func (Fn.func 26) #[] #[Value.pointer (some { block := w2.heap.size, off := 0 })], Value.string { data := #[] }, Value.int IntKind.i64 0, Value.bool false, Value.int IntKind.i64 s.size] 74
      rwa [World.size_alloc] at this
    have hbase : Based W4 (w2.heap.size + 1) w2.heap.size := ⟨w, henv, (EW.trans E2).trans E4, by omega, by omega⟩
    have BQ4 := (BQ.ext E2 (by simp)).ext E4 (by simp)
    have BM4 := (BM.ext E2 (by simp)).ext E4 (by simp)
    have hne4 : ∀ x ∈ [w2.heap.size + 1, w2.heap.size], w.heap.size + 2 ≤ x ∧ W.heap.size ≤ x := by
      have := BM.lt
      simp
      omega
    have EA : Ext [] W W4 := E2.trans E4
    rw [← hW4]
    clear hW4 E4 E2 hB2 row2 BQ BM henv
    generalize w2.heap.size + 1 = r at *
    generalize w2.heap.size = a at *
    have hnq : w.heap.size ∉ [r, a] := fun h => by have := hne4 _ h; omega
    have hnm : w.heap.size + 1 ∉ [r, a] := fun h => by have := hne4 _ h; omega
    have hnD : D ∉ [r, a] := fun h => by have := hne4 _ h; omega
    have hK4 : W4.heap[D]? = some (.deferred (some [])) := (EA.block D hDl (by simp)).trans hK
    have hW4 : w.heap.size ≤ W4.heap.size := Nat.le_trans hwl EA.size
    rcases hres : pQuery s.size (lexP s 0) with ⟨p, c⟩ | q
    · have Hres := Lib.hid hres
      clear hres
      gi_wp2_with (first
        | (refine ⟨trivial, ?_⟩; gi_at_call 28; refine (callsIn_wide.2 (first_step W4 r a A cap s.size (lexP s 0) B4 A4 A4.lt hs hbase hTok)).mono ?_; rintro e w5 ⟨rfl, E5, P5⟩)
        | (refine ⟨trivial, ?_⟩; gi_at_call 29; refine (callsIn_wide.2 (pquery_calls w5 r a (lexP s 0) s.size P5)).mono ?_; rintro e w6 ⟨E6, h6⟩; rw [Hres.out] at h6; subst h6; unfold thrown))
      have hK5 := (E5.block D (Array.getElem?_eq_some_iff.1 hK4).1 hnD).trans hK4
      have hK6 := (E6.block D (Array.getElem?_eq_some_iff.1 hK5).1 hnD).trans hK5
      have BQ6 := (BQ4.ext E5 hnq).ext E6 hnq
      have BM6 := (BM4.ext E5 hnm).ext E6 hnm
      refine ⟨by simp, .inr ⟨fun _ => by omega, _, _, 27, #[.pointer (some ⟨w.heap.size, 0, none⟩), .pointer (some ⟨w.heap.size + 1, 0, none⟩)], rfl, by simp [invoke, go_sem], fun _ _ => trivial, ?_⟩⟩
      refine (catch_panic (n - 1) w.heap.size (w.heap.size + 1) p c [] w6 _ _ _ _ _ _ BQ6 BM6 (by omega)).mono ?_
      rintro x u' w7 ⟨rfl, rfl, E7, BQ7, BM7⟩
      have hK7 := (E7.block D (Array.getElem?_eq_some_iff.1 hK6).1 (by simp; omega)).trans hK6
      have EF : Ext [] w w7 := (EW.trans EA).step ((E5.trans E6).mono (T := [r, a, w.heap.size, w.heap.size + 1]) (by intro x hx; simp at hx ⊢; omega) |>.trans (E7.mono (by intro x hx; simp at hx ⊢; omega))) (by intro x hx; simp at hx; right; have h1 := hne4 r (by simp); have h2 := hne4 a (by simp); omega)
      refine ⟨by simp [settle], .inl ⟨_, _, rfl, run_takeDeferred hK7, ?_⟩⟩
      simp only [settle, LeavesInM, LeavesIn]
      have EG : Ext [] w (w7.putObj D (.deferred none)) := EF.grown (grownBy_putObj' w7 D (.deferred none)) (by intro k hk; cases hk; right; omega)
      have BQ8 := blk_own _ _ _ () _ _ _ BQ7 (grownBy_putObj' w7 D (.deferred none)) (fun r e => by cases e; exact ⟨_, hK7, rfl⟩)
      have BM8 := blk_own _ _ _ () _ _ _ BM7 (grownBy_putObj' w7 D (.deferred none)) (fun r e => by cases e; exact ⟨_, hK7, rfl⟩)
      refine ⟨.tuple #[.agg #[.slice none 0 0, .slice none 0 0, .int .i64 0, .int .i64 0], .agg #[.int .i64 p, .int .i64 c]], ?_, EG, ?_⟩
      · have q0 := BQ8.cell 0
        have q1 := BQ8.cell 1
        have q2 := BQ8.cell 2
        have q3 := BQ8.cell 3
        have m0 := BM8.cell 0
        have m1 := BM8.cell 1
        simp only [List.getElem?_cons_zero, List.getElem?_cons_succ] at q0 q1 q2 q3 m0 m1
        simp [results, Tryz.results8, go_sem, q0, q1, q2, q3, m0, m1]
      · rw [hq.out, ← Hlex.out, Hres.out]
    · have Hres := Lib.hid hres
      clear hres
      gi_wp2_with (first
        | (refine ⟨trivial, ?_⟩; gi_at_call 28; refine (callsIn_wide.2 (first_step W4 r a A cap s.size (lexP s 0) B4 A4 A4.lt hs hbase hTok)).mono ?_; rintro e w5 ⟨rfl, E5, P5⟩)
        | (refine ⟨trivial, ?_⟩; gi_at_call 29; refine (callsIn_wide.2 (pquery_calls w5 r a (lexP s 0) s.size P5)).mono ?_; rintro e w6 ⟨E6, h6⟩; rw [Hres.out] at h6; obtain ⟨vC, vW, rfl, rowC, rowW⟩ := h6; obtain ⟨A2, cap2, rfl⟩ := ownsRow_shape rowC; obtain ⟨A3, cap3, rfl⟩ := ownsRow_shape rowW; have BQ6 := (BQ4.ext E5 hnq).ext E6 hnq; have BM6 := (BM4.ext E5 hnm).ext E6 hnm; have q0' := BQ6.cell 0; have q1' := BQ6.cell 1; have q2' := BQ6.cell 2; have q3' := BQ6.cell 3; have f0' := BQ6.frozen 0; have f1' := BQ6.frozen 1; have f2' := BQ6.frozen 2; have f3' := BQ6.frozen 3; have m0' := BM6.cell 0; have m1' := BM6.cell 1; have g0' := BM6.frozen 0; have g1' := BM6.frozen 1; simp only [List.getElem?_cons_zero, List.getElem?_cons_succ] at q0' q1' q2' q3' m0' m1'))
      obtain ⟨l1, l2, l3, l4⟩ := laid_post BQ6 BM6 (by omega) (.slice A2 q.cols.length cap2) (.slice A3 q.whr.length cap3) (.int .i64 q.srt) (.int .i64 q.lim) (.int .i64 0) (.int .i64 0)
      unfold laid at l1 l2 l3 l4
      clear q0' q1' q2' q3' f0' f1' f2' f3' m0' m1' g0' g1'
      have hK5 := (E5.block D (Array.getElem?_eq_some_iff.1 hK4).1 hnD).trans hK4
      have hK6 := (E6.block D (Array.getElem?_eq_some_iff.1 hK5).1 hnD).trans hK5
      have hK7 := (l4.block D (Array.getElem?_eq_some_iff.1 hK6).1 (by simp; omega)).trans hK6
      have hs5 := E5.size
      have hWA := EA.size
      refine ⟨by simp, .inr ⟨fun _ => by omega, _, _, 27, #[.pointer (some ⟨w.heap.size, 0, none⟩), .pointer (some ⟨w.heap.size + 1, 0, none⟩)], rfl, by simp [invoke, go_sem], fun _ _ => trivial, ?_⟩⟩
      refine (catch_idle (n - 1) w.heap.size (w.heap.size + 1) _).mono ?_
      rintro x u' w7 ⟨rfl, rfl, rfl⟩
      refine ⟨by simp [settle], .inl ⟨_, _, rfl, run_takeDeferred hK7, ?_⟩⟩
      simp only [settle, LeavesInM, LeavesIn]
      have EF := (EW.trans EA).step ((E5.trans E6).mono (T := [r, a, w.heap.size, w.heap.size + 1]) (by intro x hx; simp at hx ⊢; omega) |>.trans (l4.mono (by intro x hx; simp at hx ⊢; omega))) (by intro x hx; simp at hx; right; have h1 := hne4 r (by simp); have h2 := hne4 a (by simp); omega)
      have EG := EF.grown (grownBy_putObj' _ D (.deferred none)) (by intro k hk; cases hk; right; omega)
      have BQ8 := blk_own _ _ _ () _ _ _ l2 (grownBy_putObj' _ D (.deferred none)) (fun r e => by cases e; exact ⟨_, hK7, rfl⟩)
      have BM8 := blk_own _ _ _ () _ _ _ l3 (grownBy_putObj' _ D (.deferred none)) (fun r e => by cases e; exact ⟨_, hK7, rfl⟩)
      have rC := ownsRow_putObj (ownsRow_ext rowC l4 (by intro x hx; simp at hx; omega)) (.deferred none) hK7 rfl
      have rW := ownsRow_putObj (ownsRow_ext rowW l4 (by intro x hx; simp at hx; omega)) (.deferred none) hK7 rfl
      refine ⟨.tuple #[.agg #[.slice A2 q.cols.length cap2, .slice A3 q.whr.length cap3, .int .i64 q.srt, .int .i64 q.lim], .agg #[.int .i64 0, .int .i64 0]], ?_, EG, ?_⟩
      · have q0 := BQ8.cell 0
        have q1 := BQ8.cell 1
        have q2 := BQ8.cell 2
        have q3 := BQ8.cell 3
        have m0 := BM8.cell 0
        have m1 := BM8.cell 1
        simp only [List.getElem?_cons_zero, List.getElem?_cons_succ] at q0 q1 q2 q3 m0 m1
        simp [results, Tryz.results8, go_sem, q0, q1, q2, q3, m0, m1]
      · rw [hq.out, ← Hlex.out, Hres.out]
        exact ⟨_, _, rfl, ownsRow_base rC (by omega), ownsRow_base rW (by omega)⟩
  case stop =>
    rintro D c pre W hD hpre ⟨⟨rfl, BQ, t, ht, hte, BM⟩, hB⟩ hK
    gi_wp2
    have hp : parseZ s = .error (t.2, 20) := by
      unfold parseZ
      rw [if_neg (by omega), lexP_stop hs (hpre.subset ht) hte]
    have hB2 : Below w.heap.size w (W.putObj D (.deferred none)) := hB.trans (belowK_b (w := w) (Nat.le_refl _) W D _ _ (by omega) hK rfl rfl)
    have BQ2 := blk_own _ _ _ () _ _ _ BQ (grownBy_putObj' W D (.deferred none)) (fun r e => by cases e; exact ⟨_, hK, rfl⟩)
    have BM2 := blk_own _ _ _ () _ _ _ BM (grownBy_putObj' W D (.deferred none)) (fun r e => by cases e; exact ⟨_, hK, rfl⟩)
    refine ⟨by simp, .inl ⟨_, _, rfl, run_takeDeferred hK, ?_⟩⟩
    refine ⟨.tuple #[.agg #[.slice none 0 0, .slice none 0 0, .int .i64 0, .int .i64 0], .agg #[.int .i64 t.2, .int .i64 20]], ?_, Ext.of_below hB2, ?_⟩
    · have q0 := BQ2.cell 0
      have q1 := BQ2.cell 1
      have q2 := BQ2.cell 2
      have q3 := BQ2.cell 3
      have m0 := BM2.cell 0
      have m1 := BM2.cell 1
      simp only [List.getElem?_cons_zero, List.getElem?_cons_succ] at q0 q1 q2 q3 m0 m1
      simp [results, Tryz.results8, go_sem, q0, q1, q2, q3, m0, m1]
    · rw [hp]
      rfl
theorem pparse_calls (s : ByteArray) (w : World) (henv : Env w) : Calls Tryz.prog 8 #[.string s] w (PParsePost s w) := by
  by_cases hs : 4096 < s.size
  · exact callsIn_wide.1 (pparse_long 8 (by decide) s w hs)
  · exact callsIn_wide.1 (pparse_short 8 (by decide) s w henv (by omega))
end Go.Proofs.YtkpholfdjgdjnaaGreatDoor
