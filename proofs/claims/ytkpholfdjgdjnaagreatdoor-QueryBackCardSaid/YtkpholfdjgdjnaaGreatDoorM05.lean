/- Texts of the claim, joined: RA RB RC. -/
import Derived.Test.YtkpholfdjgdjnaaGreatDoorM04
import Derived.Deep.DeepCutAuto
namespace Go.Proofs.YtkpholfdjgdjnaaGreatDoor
open Go Go.RowKit Go.Proofs
def qEnd (size : Nat) (cols : List ColZ) (whr : List CondZ) (srt lim : Int) (L : List Tok) : Except (Nat × Nat) QZ := match pEnd size L with
  | .error e => .error e
  | .ok _ => .ok ⟨cols, whr, srt, lim⟩
def qLim (size : Nat) (cols : List ColZ) (whr : List CondZ) (srt : Int) (L : List Tok) : Except (Nat × Nat) QZ := match pLimit size L with
  | .error e => .error e
  | .ok (lim, L4) => qEnd size cols whr srt lim L4
def qSort (size : Nat) (cols : List ColZ) (whr : List CondZ) (L : List Tok) : Except (Nat × Nat) QZ := match pSort size cols.length L with
  | .error e => .error e
  | .ok (srt, L3) => qLim size cols whr srt L3
def qWhere (size : Nat) (cols : List ColZ) (L : List Tok) : Except (Nat × Nat) QZ := match pWhere size L with
  | .error e => .error e
  | .ok (whr, L2) => qSort size cols whr L2
theorem pQuery_eq (size : Nat) (L : List Tok) : pQuery size L = match pRow size (pCol size) sComma L with
  | .error e => .error e
  | .ok (cols, L1) => qWhere size cols L1 := rfl
theorem ownsRow_base {w : World} {base b' : Nat} {e : TypeId} {size : Nat} {v : Value} {n : Nat} {xs : List Value} (h : w.ownsRow base e size v n xs) (hb : b' ≤ base) : w.ownsRow b' e size v n xs := by
  refine ⟨h.1, ?_⟩
  rcases h.2 with hn | ⟨g, cap, cur, rfl, hg, rest⟩
  · exact .inl hn
  · exact .inr ⟨g, cap, cur, rfl, by omega, rest⟩
theorem ownsRow_ext' {S : List Nat} {w w' : World} {base : Nat} {e : TypeId} {size : Nat} {v : Value} {n : Nat} {xs : List Value} (h : w.ownsRow base e size v n xs) (x : Ext S w w') (hS : ∀ b, v.ownBlock = some b → b ∉ S) : w'.ownsRow base e size v n xs := by
  refine ⟨h.1, ?_⟩
  rcases h.2 with hn | ⟨g, cap, cur, rfl, hb, hgg, rest⟩
  · exact .inl hn
  · refine .inr ⟨g, cap, cur, rfl, hb, ?_, rest⟩
    rw [x.block g (Array.getElem?_eq_some_iff.1 hgg).1 (hS g rfl)]
    exact hgg
theorem is_any (w : World) (r : Nat) (A : Option Addr) (cap : Nat) (T : List Tok) (size k err at_ : Nat) (s : ByteArray) (b : Bool) (h : RR w r A cap T size k err at_) (hb : signT s = b) (x : Bool) (hx : (decide (err = 0) && pHas s (T.drop k)) = x) :
    Calls Tryz.prog 32 #[.pointer (some ⟨r, 0, none⟩), .string s, .bool b] w fun e w' => e = .returned (.bool x) ∧ Ext [] w w' := by
  subst hx
  by_cases he : err = 0
  · subst he
    simpa using is_calls w r A cap T size k at_ s b h hb
  · rw [show (decide (err = 0) && pHas s (T.drop k)) = false by simp [he]]
    exact is_old w r A cap T size k err at_ s b h he
theorem ownsRow_len {W : World} {base : Nat} {e : TypeId} {size : Nat} {v : Value} {n : Nat} {xs : List Value} (h : W.ownsRow base e size v n xs) : n ≤ 9223372036854775807 := by
  rcases h.2 with ⟨rfl, rfl⟩ | ⟨g, cap, cur, rfl, _, _, h1, h2, _⟩
  · omega
  · unfold maxLen at h2; omega
structure PSt (size : Nat) (T : List Tok) (w : World) (A : Option Addr) (cap : Nat) (r q : Nat) (res : Except (Nat × Nat) QZ) (M : List ColZ → List CondZ → Int → Int → List Tok → Prop) (vC vW : Value) (cols : List ColZ) (whr : List CondZ) (srt lim : Int) (k err at_ : Nat) (W : World) : Prop where
  ext : Ext [] w W
  s : Blk W w.heap.size [.slice none 0 0, .slice none 0 0, .int .i64 0, .int .i64 0] 25
  rr : RR W r A cap T size k err at_
  qb : Blk W q [vC, vW, .int .i64 srt, .int .i64 lim] 25
  rowC : W.ownsRow w.heap.size 57 2 vC cols.length (colsV cols)
  rowW : W.ownsRow w.heap.size 59 4 vW whr.length (condsV whr)
  neC : ∀ b, vC.ownBlock = some b → b ≠ q ∧ b ≠ r ∧ b ≠ w.heap.size
  neW : ∀ b, vW.ownBlock = some b → b ≠ q ∧ b ≠ r ∧ b ≠ w.heap.size
  lt : w.heap.size < r ∧ r < q
  nA : T ≠ [] → ∀ b, A = some ⟨b, 0, none⟩ → b < r ∧ b ≠ w.heap.size
  cs : cols.length ≤ 9223372036854775807
  st : (err = 0 ∧ M cols whr srt lim (T.drop k)) ∨ (err ≠ 0 ∧ res = .error (at_, err))
def PRel (size : Nat) (T : List Tok) (w : World) (A : Option Addr) (cap : Nat) (r q : Nat) (res : Except (Nat × Nat) QZ) (M : List ColZ → List CondZ → Int → Int → List Tok → Prop) (W : World) : Prop :=
  ∃ vC vW cols whr srt lim k err at_, PSt size T w A cap r q res M vC vW cols whr srt lim k err at_ W
def M1 (size : Nat) (res : Except (Nat × Nat) QZ) (cols : List ColZ) (whr : List CondZ) (srt lim : Int) (L : List Tok) : Prop := whr = [] ∧ srt = 0 ∧ lim = 0 ∧ res = qWhere size cols L
def M2 (size : Nat) (res : Except (Nat × Nat) QZ) (cols : List ColZ) (whr : List CondZ) (srt lim : Int) (L : List Tok) : Prop := srt = 0 ∧ lim = 0 ∧ res = qSort size cols whr L
def M3 (size : Nat) (res : Except (Nat × Nat) QZ) (cols : List ColZ) (whr : List CondZ) (srt lim : Int) (L : List Tok) : Prop := lim = 0 ∧ res = qLim size cols whr srt L
def M4 (size : Nat) (res : Except (Nat × Nat) QZ) (cols : List ColZ) (whr : List CondZ) (srt lim : Int) (L : List Tok) : Prop := res = qEnd size cols whr srt lim L
theorem PSt.keep {size : Nat} {T : List Tok} {w : World} {A : Option Addr} {cap r q : Nat} {res : Except (Nat × Nat) QZ} {M M' : List ColZ → List CondZ → Int → Int → List Tok → Prop} {vC vW : Value} {cols : List ColZ} {whr : List CondZ} {srt lim : Int} {k err at_ : Nat} {W W' : World}
    (h : PSt size T w A cap r q res M vC vW cols whr srt lim k err at_ W) (e : Ext [] W W') (hM : err = 0 → M cols whr srt lim (T.drop k) → M' cols whr srt lim (T.drop k)) : PSt size T w A cap r q res M' vC vW cols whr srt lim k err at_ W' :=
  ⟨h.ext.trans e, h.s.ext e (by simp), h.rr.keep e, h.qb.ext e (by simp), ownsRow_ext h.rowC e (by simp), ownsRow_ext h.rowW e (by simp), h.neC, h.neW, h.lt, h.nA, h.cs, h.st.imp (fun ⟨a, b⟩ => ⟨a, hM a b⟩) id⟩
theorem PSt.read {size : Nat} {T : List Tok} {w : World} {A : Option Addr} {cap r q : Nat} {res : Except (Nat × Nat) QZ} {M M' : List ColZ → List CondZ → Int → Int → List Tok → Prop} {vC vW : Value} {cols : List ColZ} {whr : List CondZ} {srt lim : Int} {k err at_ k' err' at' : Nat} {W W' : World}
    (h : PSt size T w A cap r q res M vC vW cols whr srt lim k err at_ W) (e : Ext [r] W W') (hR : RR W' r A cap T size k' err' at') (hst : (err' = 0 ∧ M' cols whr srt lim (T.drop k')) ∨ (err' ≠ 0 ∧ res = .error (at', err'))) : PSt size T w A cap r q res M' vC vW cols whr srt lim k' err' at' W' :=
  ⟨h.ext.step e (by intro x hx; simp at hx; right; have := h.lt; omega), h.s.ext e (by have := h.lt; simp; omega), hR, h.qb.ext e (by have := h.lt; simp; omega), ownsRow_ext' h.rowC e (by intro b hb; have := h.neC b hb; simp; omega), ownsRow_ext' h.rowW e (by intro b hb; have := h.neW b hb; simp; omega), h.neC, h.neW, h.lt, h.nA, h.cs, hst⟩
theorem PSt.store {size : Nat} {T : List Tok} {w : World} {A : Option Addr} {cap r q : Nat} {res : Except (Nat × Nat) QZ} {M M' : List ColZ → List CondZ → Int → Int → List Tok → Prop} {vC vW vW' : Value} {cols : List ColZ} {whr whr' : List CondZ} {srt lim srt' lim' : Int} {k err at_ : Nat} {W : World} (i : Nat) (u : Value)
    (h : PSt size T w A cap r q res M vC vW cols whr srt lim k err at_ W) (hq : [vC, vW, .int .i64 srt, .int .i64 lim].set i u = [vC, vW', .int .i64 srt', .int .i64 lim']) (hrow : W.ownsRow w.heap.size 59 4 vW' whr'.length (condsV whr')) (hne : ∀ b, vW'.ownBlock = some b → b ≠ q ∧ b ≠ r ∧ b ≠ w.heap.size)
    (hst : (err = 0 ∧ M' cols whr' srt' lim' (T.drop k)) ∨ (err ≠ 0 ∧ res = .error (at_, err))) : PSt size T w A cap r q res M' vC vW' cols whr' srt' lim' k err at_ (W.setCell ⟨q, i, none⟩ u) := by
  have hlt := h.lt
  have e : Ext [q] W (W.setCell ⟨q, i, none⟩ u) := (Ext.refl [q] W).setCell _ (by simp) _
  have hnA := h.nA
  refine ⟨h.ext.setCell _ (by simp; omega) _, h.s.ext e (by simp; omega), h.rr.set_new _ _ (by simp; omega) (fun hn b hb => by have := hnA hn b hb; simp; omega), ?_, ownsRow_ext' h.rowC e (by intro b hb; have := h.neC b hb; simp; omega), ownsRow_ext' hrow e (by intro b hb; have := hne b hb; simp; omega), h.neC, hne, h.lt, h.nA, h.cs, hst⟩
  rw [← hq]
  exact h.qb.set i u
theorem pNum_range {size : Nat} {lo hi : Int} {L L' : List Tok} {n : Int} (h : pNum size lo hi L = .ok (n, L')) : lo ≤ n ∧ n ≤ hi := by
  unfold pNum at h
  rcases L with _ | ⟨t, L1⟩
  · cases h
  · simp only at h
    rcases hn : numOf t.1 with _ | m
    · rw [hn] at h
      cases h
    · rw [hn] at h
      simp only at h
      split at h
      · rename_i hr
        injection h with h
        injection h with h1 h2
        rw [← h1]
        exact hr
      · cases h
def M2b (size : Nat) (res : Except (Nat × Nat) QZ) (cols : List ColZ) (whr : List CondZ) (srt lim : Int) (L : List Tok) : Prop :=
  lim = 0 ∧ (1 ≤ srt ∧ srt ≤ 9223372036854775807) ∧ res = (if pHas sDown L then qLim size cols whr (-srt) L.tail else qLim size cols whr srt L)
theorem wrap_neg {n : Int} (h : 1 ≤ n ∧ n ≤ 9223372036854775807) : wrap64 (-n) = -n := by
  unfold wrap64
  omega
end Go.Proofs.YtkpholfdjgdjnaaGreatDoor
namespace Go.Proofs.YtkpholfdjgdjnaaGreatDoor
open Go Go.RowKit Go.Proofs
theorem words_slice {W : World} {base : Nat} {v : Value} {T : List Tok} (h : W.ownsRow base 149 3 v T.length (wordsV T)) :
    ∃ A cap, v = .slice A T.length cap ∧ (T ≠ [] → ∃ b, A = some ⟨b, 0, none⟩ ∧ base ≤ b ∧ b < W.heap.size ∧ ∀ j, j < (wordsV T).length → W.cell? ⟨b, j, none⟩ = some ((wordsV T)[j]?.getD undef)) := by
  rcases h.2 with ⟨rfl, h0⟩ | ⟨g, cap, cur, rfl, hb, hg, _⟩
  · refine ⟨none, 0, by rw [h0], fun hne => absurd (List.length_eq_zero_iff.1 h0) hne⟩
  · refine ⟨_, cap, rfl, fun _ => ⟨g, rfl, hb, (Array.getElem?_eq_some_iff.1 hg).1, fun j hj => ?_⟩⟩
    have := h.cells (g := g) rfl j _ (List.getElem?_eq_getElem hj)
    rw [add_at, Nat.zero_add] at this
    rw [this, List.getElem?_eq_getElem hj]
    rfl
theorem ownsRow_shape {W : World} {base : Nat} {e : TypeId} {size : Nat} {v : Value} {n : Nat} {xs : List Value} (h : W.ownsRow base e size v n xs) : ∃ A cap, v = .slice A n cap := by
  rcases h.2 with ⟨rfl, rfl⟩ | ⟨g, cap, cur, rfl, _⟩
  · exact ⟨none, 0, rfl⟩
  · exact ⟨_, cap, rfl⟩
theorem pHas_lt {s : ByteArray} {T : List Tok} {k : Nat} (h : pHas s (T.drop k) = true) : k < T.length := by
  rcases Nat.lt_or_ge k T.length with h1 | h1
  · exact h1
  · rw [List.drop_of_length_le h1] at h
    cases h
def zeroQ : Value := .agg #[.slice none 0 0, .slice none 0 0, .int .i64 0, .int .i64 0]
def RParsePost (s : ByteArray) (w : World) (e : Ending) (w' : World) : Prop :=
  Ext [] w w' ∧ match parseZ s with
    | .error (a, c) => e = .returned (.tuple #[zeroQ, .int .i64 a, .int .i64 c])
    | .ok q => ∃ vC vW, e = .returned (.tuple #[.agg #[vC, vW, .int .i64 q.srt, .int .i64 q.lim], .int .i64 0, .int .i64 0]) ∧
        w'.ownsRow w.heap.size 57 2 vC q.cols.length (colsV q.cols) ∧ w'.ownsRow w.heap.size 59 4 vW q.whr.length (condsV q.whr)
theorem rparse_long (s : ByteArray) (w : World) (hs : 4096 < s.size) :
    Calls Tryz.prog 9 #[.string s] w (RParsePost s w) := by
  have hp : Hid (parseZ s = .error (0, 60)) := if_pos hs
  go_enter Tryz.func9, Tryz.ntmps9
  go_wp2
  refine bodyPost_ret (v := .tuple #[zeroQ, .int .i64 0, .int .i64 60]) (by simp [results, Tryz.results9, go_sem, zeroQ]) rfl ?_
  refine ⟨?_, by rw [hp.out]; rfl⟩
  repeat (first | exact Ext.refl _ _ | with_reducible refine Ext.alloc ?_ _ | with_reducible refine Ext.setCell ?_ _ (by simp) _)
set_option maxRecDepth 100000 in
theorem rparse_bad (s : ByteArray) (w : World) (hs : s.size ≤ 4096) (i : Nat) (hb : (lex s 0).2 = some i) :
    Calls Tryz.prog 9 #[.string s] w (RParsePost s w) := by
  have hp : Hid (parseZ s = .error (i, 20)) := by unfold Hid parseZ; rw [if_neg (by omega), hb]
  go_enter Tryz.func9, Tryz.ntmps9
  go_wp2_with (go_at_call 30; refine (words_calls s _ hs).mono ?_; rintro e w1 ⟨hE, v, ⟨h1, _⟩ | ⟨i', h1, rfl⟩⟩; (exfalso; rw [hb] at h1; cases h1); obtain rfl : i = i' := Option.some.inj (hb.symm.trans h1); have B := (Blk.new w [.slice none 0 0, .slice none 0 0, .int .i64 0, .int .i64 0] 25).ext hE (by simp); have d0 : w1.cell? ⟨w.heap.size, 0, none⟩ = some (.slice none 0 0) := B.cell 0; have d1 : w1.cell? ⟨w.heap.size, 1, none⟩ = some (.slice none 0 0) := B.cell 1; have d2 : w1.cell? ⟨w.heap.size, 2, none⟩ = some (.int .i64 0) := B.cell 2; have d3 : w1.cell? ⟨w.heap.size, 3, none⟩ = some (.int .i64 0) := B.cell 3; have g0 := B.frozen 0; have g1 := B.frozen 1; have g2 := B.frozen 2; have g3 := B.frozen 3)
  refine bodyPost_ret (v := .tuple #[zeroQ, .int .i64 i, .int .i64 20]) (by simp [results, Tryz.results9, go_sem, zeroQ, d0, d1, d2, d3, g0, g1, g2, g3]) rfl ?_
  refine ⟨?_, by rw [hp.out]; rfl⟩
  exact (((((Ext.refl [] w).alloc _).trans hE).setCell _ (by simp) _).setCell _ (by simp) _).setCell _ (by simp) _ |>.setCell _ (by simp) _
set_option maxRecDepth 100000 in
set_option maxHeartbeats 2000000 in
theorem rparse_good (s : ByteArray) (w : World) (hs : s.size ≤ 4096) (hb : (lex s 0).2 = none) (hsz : ∀ t ∈ (lex s 0).1, t.1.size ≤ 4096) (hT : (lex s 0).1.length ≤ 4096) :
    Calls Tryz.prog 9 #[.string s] w (RParsePost s w) := by
  have hp : Hid (parseZ s = pQuery s.size (lex s 0).1) := by unfold Hid parseZ; rw [if_neg (by omega), hb]
  generalize hTT : (lex s 0).1 = T at *
  go_enter Tryz.func9, Tryz.ntmps9
  go_wp2_with (first
    | (go_at_call 30; refine (words_calls s _ hs).mono ?_; rintro e w1 ⟨hE, v, ⟨h1, rfl, hrow⟩ | ⟨i', h1, rfl⟩⟩; rotate_left 1; (exfalso; rw [hb] at h1; cases h1); rw [hTT] at hrow; obtain ⟨A, cap, rfl, hA⟩ := words_slice hrow))
  refine absC ?_
  intro WR hWR
  have R0 : RR WR w1.heap.size A cap T s.size 0 0 0 := by
    rw [hWR]
    refine ⟨Blk.new w1 [.slice A T.length cap, .int .i64 0, .int .i64 s.size, .int .i64 0, .int .i64 0] 81, fun hne => ?_, Nat.zero_le _, hT, hs⟩
    obtain ⟨b, h1, h2, h3, h4⟩ := hA hne
    exact ⟨b, h1, by omega, fun j hj => ((Ext.refl [] w1).alloc _).keeps (h4 j hj) (by simp)⟩
  have ER : Ext [] w WR := by rw [hWR]; exact (((Ext.refl [] w).alloc _).trans hE).alloc _
  have hr1 : w.heap.size < w1.heap.size := by have := hE.size; simp at this; omega
  have hr2 : w1.heap.size < WR.heap.size := by rw [hWR]; simp
  have S0 : Blk WR w.heap.size [.slice none 0 0, .slice none 0 0, .int .i64 0, .int .i64 0] 25 := by
    rw [hWR]
    exact ((Blk.new w [.slice none 0 0, .slice none 0 0, .int .i64 0, .int .i64 0] 25).ext hE (by simp)).alloc _
  have nA : T ≠ [] → ∀ b, A = some ⟨b, 0, none⟩ → b < w1.heap.size ∧ b ≠ w.heap.size := fun hne b hb => by
    obtain ⟨b', h1, h2, h3, h4⟩ := hA hne
    rw [hb] at h1
    obtain rfl : b = b' := by injection h1 with h1; injection h1
    simp at h2
    omega
  generalize hrr : w1.heap.size = r at *
  clear hrr hWR hA hrow hE
  refine (rcolumns_calls WR r A cap T s.size 0 0 R0 hsz).mono ?_
  rintro e w2 ⟨vC, cols, k1, err1, at1, rfl, rowC, hD, hc⟩
  rw [List.drop_zero] at hD hc
  obtain ⟨A2, cap2, rfl⟩ := ownsRow_shape rowC
  go_wp2_with fail
  refine absC ?_
  intro W hW
  have hP : PRel s.size T w A cap r w2.heap.size (pQuery s.size T) (M1 s.size (pQuery s.size T)) W := by
    obtain ⟨hE2, hR2, hm⟩ := hD
    have hw2 : WR.heap.size ≤ w2.heap.size := hE2.size
    have e : Ext [] w2 W := by rw [hW]; exact (Ext.refl [] w2).alloc _
    refine ⟨.slice A2 cols.length cap2, .slice none 0 0, cols, [], 0, 0, k1, err1, at1, ?_⟩
    refine ⟨(ER.step hE2 (by intro x hx; simp at hx; right; omega)).trans e, (S0.ext hE2 (by simp; omega)).ext e (by simp), hR2.keep e, by rw [hW]; exact Blk.new w2 [.slice A2 cols.length cap2, .slice none 0 0, .int .i64 0, .int .i64 0] 25, ownsRow_ext (ownsRow_base rowC ER.size) e (by simp), World.ownsRow_nil _ _ _ _, fun b hb => ?_, fun b hb => by simp [Value.ownBlock] at hb, ⟨hr1, by omega⟩, nA, ownsRow_len rowC, ?_⟩
    · have := rowC.lt b hb
      have := ER.size
      omega
    · rw [pQuery_eq]
      rcases h1 : pRow s.size (pCol s.size) sComma T with ⟨a, e1⟩ | ⟨cols', L⟩
      · rw [h1] at hm
        obtain ⟨rfl, h2, rfl⟩ := hm
        exact .inr ⟨h2, rfl⟩
      · rw [h1] at hm
        obtain ⟨rfl, rfl⟩ := hm
        obtain rfl := hc _ _ h1
        exact .inl ⟨rfl, rfl, rfl, rfl, rfl⟩
  clear hW hD hc rowC R0 S0 ER hr2
  generalize hq : w2.heap.size = q at *
  clear hq
  obtain ⟨vC, vW, cols, whr, srt, lim, k, err, at_, P⟩ := hP
  obtain ⟨x, hx⟩ : ∃ x, (decide (err = 0) && pHas sWhere (T.drop k)) = x := ⟨_, rfl⟩
  refine (is_any W r A cap T s.size k err at_ sWhere false P.rr (by decide) x hx).mono ?_
  rintro e W1 ⟨rfl, h1⟩
  go_upto_if 31 with fail
  go_cut [] (fun wx => PRel s.size T w A cap r q (pQuery s.size T) (M2 s.size (pQuery s.size T)) wx)
  case first =>
    have Hx := Lib.hid hx
    clear hx
    cases x with
    | false =>
      go_wp2_with fail
      go_meet
      case rel =>
        refine ⟨vC, vW, cols, whr, srt, lim, k, err, at_, P.keep h1 (fun he h => ?_)⟩
        have hx := Hx.out
        rw [he] at hx
        simp at hx
        obtain ⟨rfl, rfl, rfl, hq⟩ := h
        exact ⟨rfl, rfl, by rw [hq]; unfold qWhere pWhere; rw [hx]; rfl⟩
    | true =>
      obtain ⟨he, hwh⟩ : err = 0 ∧ pHas sWhere (T.drop k) = true := by simpa using Hx.out
      subst he
      have P1 : PSt s.size T w A cap r q (pQuery s.size T) (M1 s.size (pQuery s.size T)) vC vW cols whr srt lim k 0 at_ W1 := P.keep h1 (fun _ h => h)
      have hkl := pHas_lt hwh
      have c1 := P1.rr.c1
      have f1 := P1.rr.blk.frozen 1
      have hM := Lib.hid (P1.st.resolve_right (fun h => h.1 rfl)).2
      clear Hx
      have Hwh := Lib.hid hwh
      clear hwh
      go_wp2_with fail
      have hadv := P1.rr.adv hkl
      refine (rconditions_calls _ r A cap T s.size (k + 1) at_ hadv.2 hsz).mono ?_
      rintro e W3 ⟨v3, whr3, k3, err3, at3, rfl, row3, hD3, hc3⟩
      have hlt := P1.lt
      have hq1 := P1.qb.lt
      have hsz1 := P1.ext.size
      have hsz2 := hadv.1.size
      have P3 : PSt s.size T w A cap r q (pQuery s.size T) (fun cols _ srt lim L => M2 s.size (pQuery s.size T) cols whr3 srt lim L) vC vW cols whr srt lim k3 err3 at3 W3 := by
        refine P1.read (hadv.1.trans hD3.1) hD3.2.1 ?_
        obtain ⟨_, hs0, hl0, hq⟩ := hM.out
        have hm := hD3.2.2
        have hw : pWhere s.size (T.drop k) = pRow s.size (pCond s.size) sAnd (T.drop (k + 1)) := by
          unfold pWhere
          rw [Hwh.out, if_pos rfl, List.tail_drop]
        unfold qWhere at hq
        rw [hw] at hq
        rcases h1 : pRow s.size (pCond s.size) sAnd (T.drop (k + 1)) with ⟨a, e1⟩ | ⟨whr', L⟩
        · rw [h1] at hm hq
          obtain ⟨rfl, h2, rfl⟩ := hm
          exact .inr ⟨h2, hq⟩
        · rw [h1] at hm hq
          obtain ⟨rfl, rfl⟩ := hm
          obtain rfl := hc3 _ _ h1
          exact .inl ⟨rfl, hs0, hl0, hq⟩
      obtain ⟨A3, cap3, rfl⟩ := ownsRow_shape row3
      clear hD3 hc3 P1 P h1 hadv
      have qc := P3.qb.cell 1
      have qf := P3.qb.frozen 1
      simp only [List.getElem?_cons_zero, List.getElem?_cons_succ] at qc
      go_wp2_with fail
      go_meet
      case rel =>
        refine ⟨vC, _, cols, whr3, srt, lim, k3, err3, at3, P3.store 1 _ rfl (ownsRow_base row3 (Nat.le_trans hsz1 hsz2)) (fun b hb => ?_) P3.st⟩
        have := row3.lt b hb
        omega
  case rest =>
    clear P h1 hx
    obtain ⟨vC, vW, cols, whr, srt, lim, k, err, at_, P⟩ := hcut
    obtain ⟨x, hx⟩ : ∃ x, (decide (err = 0) && pHas sSort (T.drop k)) = x := ⟨_, rfl⟩
    go_upto_if 43 with (go_at_call 32; refine (is_any _ r A cap T s.size k err at_ sSort false P.rr (by decide) x hx).mono ?_; rintro e W1 ⟨rfl, h1⟩)
    go_cut [] (fun wx => PRel s.size T w A cap r q (pQuery s.size T) (M3 s.size (pQuery s.size T)) wx)
    case first =>
      have Hx := Lib.hid hx
      clear hx
      cases x with
      | false =>
        go_wp2_with fail
        go_meet
        case rel =>
          refine ⟨vC, vW, cols, whr, srt, lim, k, err, at_, P.keep h1 (fun he h => ?_)⟩
          have hx := Hx.out
          rw [he] at hx
          simp at hx
          obtain ⟨rfl, rfl, hq⟩ := h
          exact ⟨rfl, by rw [hq]; unfold qSort pSort; rw [hx]; rfl⟩
      | true =>
        obtain ⟨he, hwh⟩ : err = 0 ∧ pHas sSort (T.drop k) = true := by simpa using Hx.out
        subst he
        have P1 : PSt s.size T w A cap r q (pQuery s.size T) (M2 s.size (pQuery s.size T)) vC vW cols whr srt lim k 0 at_ W1 := P.keep h1 (fun _ h => h)
        have hkl := pHas_lt hwh
        have c1 := P1.rr.c1
        have f1 := P1.rr.blk.frozen 1
        have hM := Lib.hid (P1.st.resolve_right (fun h => h.1 rfl)).2
        clear Hx
        have Hwh := Lib.hid hwh
        clear hwh
        have hadv := P1.rr.adv hkl
        have hlt := P1.lt
        obtain ⟨A2, cap2, rfl⟩ := ownsRow_shape P1.rowC
        have P2 : PSt s.size T w A cap r q (pQuery s.size T) (fun _ _ _ _ _ => True) (.slice A2 cols.length cap2) vW cols whr srt lim (k + 1) 0 at_ (W1.setCell ⟨r, 1, none⟩ (.int .i64 ((k : Int) + 1))) := P1.read hadv.1 hadv.2 (.inl ⟨rfl, trivial⟩)
        have qc := P2.qb.cell 0
        simp only [List.getElem?_cons_zero, List.getElem?_cons_succ] at qc
        go_wp2_with fail
        refine (rnum_calls _ r A cap T s.size (k + 1) at_ 1 cols.length hadv.2 hsz).mono ?_
        rintro e W3 ⟨n3, k3, err3, at3, rfl, hD3, hc3⟩
        have P3 : PSt s.size T w A cap r q (pQuery s.size T) (fun cols whr _ lim L => M2b s.size (pQuery s.size T) cols whr n3 lim L) (.slice A2 cols.length cap2) vW cols whr srt lim k3 err3 at3 W3 := by
          refine P2.read hD3.1 hD3.2.1 ?_
          obtain ⟨hs0, hl0, hq⟩ := hM.out
          have hm := hD3.2.2
          unfold qSort pSort at hq
          rw [Hwh.out, if_pos rfl, List.tail_drop] at hq
          rcases h1 : pNum s.size 1 cols.length (T.drop (k + 1)) with ⟨a, e1⟩ | ⟨n, L⟩
          · rw [h1] at hm hq
            obtain ⟨rfl, h2, rfl⟩ := hm
            exact .inr ⟨h2, hq⟩
          · rw [h1] at hm hq
            obtain ⟨rfl, rfl⟩ := hm
            obtain rfl := hc3 _ _ h1
            have hn := pNum_range h1
            have hcs := P2.cs
            refine .inl ⟨rfl, hl0, ⟨hn.1, by omega⟩, ?_⟩
            rw [hq]
            rcases hd : pHas sDown (T.drop k3) with _ | _ <;> simp only [hd, if_true, Bool.false_eq_true, if_false]
        have P4 := P3.store (M' := M2b s.size (pQuery s.size T)) 2 (.int .i64 n3) rfl P3.rowW P3.neW P3.st
        have qc3 := P3.qb.cell 2
        have qf3 := P3.qb.frozen 2
        have qc4 := P4.qb.cell 2
        have qf4 := P4.qb.frozen 2
        simp only [List.getElem?_cons_zero, List.getElem?_cons_succ] at qc3 qc4
        clear P P1 hD3 hc3 h1 qc hadv
        obtain ⟨x, hx⟩ : ∃ x, (decide (err3 = 0) && pHas sDown (T.drop k3)) = x := ⟨_, rfl⟩
        go_upto_if 58 with (go_at_call 32; refine (is_any _ r A cap T s.size k3 err3 at3 sDown false P4.rr (by decide) x hx).mono ?_; rintro e W5 ⟨rfl, h1⟩)
        have Hx := Lib.hid hx
        clear hx
        cases x with
        | false =>
          go_wp2_with fail
          go_meet
          case rel =>
            refine ⟨_, vW, cols, whr, n3, lim, k3, err3, at3, P4.keep h1 (fun he h => ?_)⟩
            have hx := Hx.out
            rw [he] at hx
            simp at hx
            obtain ⟨hl, _, hq⟩ := h
            rw [hx] at hq
            exact ⟨hl, hq⟩
        | true =>
          obtain ⟨he, hdn⟩ : err3 = 0 ∧ pHas sDown (T.drop k3) = true := by simpa using Hx.out
          subst he
          have hkl := pHas_lt hdn
          have P5 : PSt s.size T w A cap r q (pQuery s.size T) (M2b s.size (pQuery s.size T)) (.slice A2 cols.length cap2) vW cols whr n3 lim k3 0 at3 W5 := P4.keep h1 (fun _ h => h)
          have hadv := P5.rr.adv hkl
          have hM5 := (P5.st.resolve_right (fun h => h.1 rfl)).2
          have P6 : PSt s.size T w A cap r q (pQuery s.size T) (fun cols whr srt lim L => M3 s.size (pQuery s.size T) cols whr (-srt) lim L) (.slice A2 cols.length cap2) vW cols whr n3 lim (k3 + 1) 0 at3 (W5.setCell ⟨r, 1, none⟩ (.int .i64 ((k3 : Int) + 1))) := by
            refine P5.read hadv.1 hadv.2 (.inl ⟨rfl, ?_⟩)
            obtain ⟨hl, _, hq⟩ := hM5
            rw [hdn, if_pos rfl, List.tail_drop] at hq
            exact ⟨hl, hq⟩
          have hrange := Lib.hid hM5.2.1
          have P7 := P6.store (M' := M3 s.size (pQuery s.size T)) (srt' := -n3) 2 (.int .i64 (-n3)) rfl P6.rowW P6.neW P6.st
          have qc6 := P6.qb.cell 2
          have qf6 := P6.qb.frozen 2
          have c1 := P5.rr.c1
          have f1 := P5.rr.blk.frozen 1
          simp only [List.getElem?_cons_zero, List.getElem?_cons_succ] at qc6
          clear hM5 hadv
          clear Hx
          have Hwh := Lib.hid hdn
          clear hdn
          go_wp2_with fail
          rw [wrap_neg hrange.out]
          go_meet
          case rel => exact ⟨_, vW, cols, whr, -n3, lim, k3 + 1, 0, at3, P7⟩
    case rest =>
      clear P h1 hx
      obtain ⟨vC, vW, cols, whr, srt, lim, k, err, at_, P⟩ := hcut
      obtain ⟨x, hx⟩ : ∃ x, (decide (err = 0) && pHas sLimit (T.drop k)) = x := ⟨_, rfl⟩
      go_upto_if 71 with (go_at_call 32; refine (is_any _ r A cap T s.size k err at_ sLimit false P.rr (by decide) x hx).mono ?_; rintro e W1 ⟨rfl, h1⟩)
      go_cut [] (fun wx => PRel s.size T w A cap r q (pQuery s.size T) (M4 s.size (pQuery s.size T)) wx)
      case first =>
        have Hx := Lib.hid hx
        clear hx
        cases x with
        | false =>
          go_wp2_with fail
          go_meet
          case rel =>
            refine ⟨vC, vW, cols, whr, srt, lim, k, err, at_, P.keep h1 (fun he h => ?_)⟩
            have hx := Hx.out
            rw [he] at hx
            simp at hx
            obtain ⟨rfl, hq⟩ := h
            unfold M4
            rw [hq]
            unfold qLim pLimit
            rw [hx]
            rfl
        | true =>
          obtain ⟨he, hwh⟩ : err = 0 ∧ pHas sLimit (T.drop k) = true := by simpa using Hx.out
          subst he
          have P1 : PSt s.size T w A cap r q (pQuery s.size T) (M3 s.size (pQuery s.size T)) vC vW cols whr srt lim k 0 at_ W1 := P.keep h1 (fun _ h => h)
          have hkl := pHas_lt hwh
          have c1 := P1.rr.c1
          have f1 := P1.rr.blk.frozen 1
          have hM := Lib.hid (P1.st.resolve_right (fun h => h.1 rfl)).2
          clear Hx
          have Hwh := Lib.hid hwh
          clear hwh
          have hadv := P1.rr.adv hkl
          have hlt := P1.lt
          go_wp2_with fail
          refine (rnum_calls _ r A cap T s.size (k + 1) at_ 1 1000 hadv.2 hsz).mono ?_
          rintro e W3 ⟨n3, k3, err3, at3, rfl, hD3, hc3⟩
          have P3 : PSt s.size T w A cap r q (pQuery s.size T) (fun cols whr srt _ L => M4 s.size (pQuery s.size T) cols whr srt n3 L) vC vW cols whr srt lim k3 err3 at3 W3 := by
            refine P1.read (hadv.1.trans hD3.1) hD3.2.1 ?_
            obtain ⟨hl0, hq⟩ := hM.out
            have hm := hD3.2.2
            unfold qLim pLimit at hq
            rw [Hwh.out, if_pos rfl, List.tail_drop] at hq
            rcases h1 : pNum s.size 1 1000 (T.drop (k + 1)) with ⟨a, e1⟩ | ⟨n, L⟩
            · rw [h1] at hm hq
              obtain ⟨rfl, h2, rfl⟩ := hm
              exact .inr ⟨h2, hq⟩
            · rw [h1] at hm hq
              obtain ⟨rfl, rfl⟩ := hm
              obtain rfl := hc3 _ _ h1
              exact .inl ⟨rfl, hq⟩
          have P4 := P3.store (M' := M4 s.size (pQuery s.size T)) 3 (.int .i64 n3) rfl P3.rowW P3.neW P3.st
          have qc3 := P3.qb.cell 3
          have qf3 := P3.qb.frozen 3
          simp only [List.getElem?_cons_zero, List.getElem?_cons_succ] at qc3
          clear P P1 hD3 hc3 h1 hadv
          go_wp2_with fail
          go_meet
          case rel => exact ⟨vC, vW, cols, whr, srt, n3, k3, err3, at3, P4⟩
      case rest =>
        clear P h1 hx
        obtain ⟨vC, vW, cols, whr, srt, lim, k, err, at_, P⟩ := hcut
        obtain ⟨A2, cap2, rfl⟩ := ownsRow_shape P.rowC
        obtain ⟨A3, cap3, rfl⟩ := ownsRow_shape P.rowW
        have c1 := P.rr.c1
        have c0 := P.rr.blk.cell 0
        simp only [List.getElem?_cons_zero] at c0
        go_wp2_with fail
        go_quiet (fail)
        refine absW ?_
        intro W7 hW7
        have P7 : PSt s.size T w A cap r q (pQuery s.size T) (M4 s.size (pQuery s.size T)) (.slice A2 cols.length cap2) (.slice A3 whr.length cap3) cols whr srt lim k err at_ W7 := P.keep (by rw [hW7]; exact (Ext.refl [] _).drewN _) (fun _ h => h)
        clear hW7 P c1 c0
        go_upto_if 91 with fail
        go_cut [] (fun wx => PRel s.size T w A cap r q (pQuery s.size T) (fun cols whr srt lim _ => pQuery s.size T = .ok ⟨cols, whr, srt, lim⟩) wx)
        case first =>
          rcases Nat.lt_or_ge k T.length with hk | hk
          · have Hk := Lib.hid hk
            have hk' : decide ((k : Int) < (T.length : Int)) = true := by simp; omega
            obtain ⟨t, hne⟩ : ∃ t, T.drop k = t :: T.drop (k + 1) := ⟨_, List.drop_eq_getElem_cons hk⟩
            have Hne := Lib.hid hne
            clear hne
            by_cases he : err = 0
            · subst he
              have hM := Lib.hid (P7.st.resolve_right (fun h => h.1 rfl)).2
              clear hk
              go_wp2_with fail
              refine (fail_calls _ r A cap T s.size k at_ 61 P7.rr).mono ?_
              rintro e W8 ⟨rfl, h8, R8⟩
              go_wp2_with fail
              go_meet
              case rel =>
                refine ⟨_, _, cols, whr, srt, lim, k, 61, _, P7.read h8 R8 (.inr ⟨by decide, ?_⟩)⟩
                have := hM.out
                unfold M4 qEnd pEnd at this
                rw [this, Hne.out]
                rfl
            · have He := Lib.hid he
              clear hk he
              go_wp2_with fail
              refine (fail_old _ r A cap T s.size k err at_ 61 P7.rr He.out).mono ?_
              rintro e W8 ⟨rfl, rfl⟩
              go_wp2_with fail
              go_meet
              case rel => exact ⟨_, _, cols, whr, srt, lim, k, err, at_, P7.keep (Ext.refl [] _) (fun h => absurd h He.out)⟩
          · have Hk := Lib.hid hk
            have hk' : decide ((k : Int) < (T.length : Int)) = false := by simp; omega
            clear hk
            go_wp2_with fail
            · exfalso
              have := Hk.out
              omega
            go_meet
            case rel =>
              refine ⟨_, _, cols, whr, srt, lim, k, err, at_, P7.keep (Ext.refl [] _) (fun he h => ?_)⟩
              unfold M4 qEnd pEnd at h
              rw [h, List.drop_of_length_le Hk.out]
        case rest =>
          clear P7
          obtain ⟨vC, vW, cols, whr, srt, lim, k, err, at_, P⟩ := hcut
          obtain ⟨A2, cap2, rfl⟩ := ownsRow_shape P.rowC
          obtain ⟨A3, cap3, rfl⟩ := ownsRow_shape P.rowW
          have c3 := P.rr.c3
          have c4 := P.rr.blk.cell 4
          simp only [List.getElem?_cons_zero, List.getElem?_cons_succ] at c4
          have q0 := P.qb.cell 0
          have q1 := P.qb.cell 1
          have q2 := P.qb.cell 2
          have q3 := P.qb.cell 3
          have s0 := P.s.cell 0
          have s1 := P.s.cell 1
          have s2 := P.s.cell 2
          have s3 := P.s.cell 3
          have g0 := P.s.frozen 0
          have g1 := P.s.frozen 1
          have g2 := P.s.frozen 2
          have g3 := P.s.frozen 3
          have hlt := P.lt
          simp only [List.getElem?_cons_zero, List.getElem?_cons_succ] at q0 q1 q2 q3 s0 s1 s2 s3
          by_cases he : err = 0
          · subst he
            have hM := Lib.hid (P.st.resolve_right (fun h => h.1 rfl)).2
            go_wp2_with fail
            refine bodyPost_ret (v := .tuple #[.agg #[.slice A2 cols.length cap2, .slice A3 whr.length cap3, .int .i64 srt, .int .i64 lim], .int .i64 0, .int .i64 0]) (by simp [results, Tryz.results9, go_sem, s0, s1, s2, s3, g0, g1, g2, g3]) rfl ?_
            have e : Ext [w.heap.size] wc _ := ((((Ext.refl [w.heap.size] wc).setCell ⟨w.heap.size, 0, none⟩ (by simp) (.slice A2 cols.length cap2)).setCell ⟨w.heap.size, 1, none⟩ (by simp) (.slice A3 whr.length cap3)).setCell ⟨w.heap.size, 2, none⟩ (by simp) (.int .i64 srt)).setCell ⟨w.heap.size, 3, none⟩ (by simp) (.int .i64 lim)
            refine ⟨P.ext.step e (by intro x hx; simp at hx; right; omega), ?_⟩
            rw [hp.out, hM.out]
            exact ⟨_, _, rfl, ownsRow_ext' P.rowC e (by intro b hb; have := P.neC b hb; simp; omega), ownsRow_ext' P.rowW e (by intro b hb; have := P.neW b hb; simp; omega)⟩
          · have hne : ((err : Int) != 0) = true := by simp; omega
            have He := Lib.hid he
            clear he
            go_wp2_with fail
            go_region
            go_wp2
            refine bodyPost_ret (v := .tuple #[zeroQ, .int .i64 at_, .int .i64 err]) (by simp [results, Tryz.results9, go_sem, zeroQ, s0, s1, s2, s3, g0, g1, g2, g3]) rfl ?_
            have e : Ext [w.heap.size] wc _ := (((((Ext.refl [w.heap.size] wc).drew).setCell ⟨w.heap.size, 0, none⟩ (by simp) (.slice none 0 0)).setCell ⟨w.heap.size, 1, none⟩ (by simp) (.slice none 0 0)).setCell ⟨w.heap.size, 2, none⟩ (by simp) (.int .i64 0)).setCell ⟨w.heap.size, 3, none⟩ (by simp) (.int .i64 0)
            refine ⟨P.ext.step e (by intro x hx; simp at hx; right; omega), ?_⟩
            rw [hp.out, (P.st.resolve_left (fun h => He.out h.1)).2]
end Go.Proofs.YtkpholfdjgdjnaaGreatDoor
namespace Go.Proofs.YtkpholfdjgdjnaaGreatDoor
open Go Go.RowKit Go.Proofs
theorem lex_small (s : ByteArray) (i : Nat) : (∀ t ∈ (lex s i).1, t.1.size ≤ s.size ∧ 0 < t.1.size) ∧ (lex s i).1.length ≤ s.size - i := by
  induction h : s.size - i using Nat.strongRecOn generalizing i with
  | _ n ih =>
    by_cases hi : i < s.size
    · by_cases hb : blankZ (bt s i) = true
      · rw [lex_blank s i hi hb]
        have := ih (s.size - (i + 1)) (by omega) (i + 1) rfl
        exact ⟨this.1, by omega⟩
      · have hb' : blankZ (bt s i) = false := by simpa using hb
        by_cases ht : 0 < tl s i
        · rw [lex_tok s i hi hb' ht]
          have hle := tl_le s i hi
          have := ih (s.size - (i + tl s i)) (by omega) (i + tl s i) rfl
          refine ⟨fun t hm => ?_, ?_⟩
          · rcases List.mem_cons.1 hm with rfl | hm
            · simp [ByteArray.size_extract]
              omega
            · exact this.1 t hm
          · simp
            omega
        · rw [lex_bad s i hi hb' (by omega)]
          simp
    · rw [lex_end s i hi]
      simp
theorem rparse_calls (s : ByteArray) (w : World) : Calls Tryz.prog 9 #[.string s] w (RParsePost s w) := by
  by_cases hs : 4096 < s.size
  · exact rparse_long s w hs
  · rcases hb : (lex s 0).2 with _ | i
    · have h := lex_small s 0
      exact rparse_good s w (by omega) hb (fun t ht => by have := (h.1 t ht).1; omega) (by omega)
    · exact rparse_bad s w (by omega) i hb
end Go.Proofs.YtkpholfdjgdjnaaGreatDoor
