/- Texts of the claim, joined: R7 R8 R9. -/
import Derived.Test.YtkpholfdjgdjnaaGreatDoorM03
import Derived.Deep.AppendLies
namespace Go.Proofs.YtkpholfdjgdjnaaGreatDoor
open Go Go.RowKit Go.Proofs
theorem RowRel.start {α : Type} {e sz : Nat} {enc : List α → List Value} {one : List Tok → Res α} {s : ByteArray} {w w1 : World} {r : Nat} {A : Option Addr} {cap : Nat} {T : List Tok} {size k0 k1 err1 at1 : Nat} {c : α} {v : Value} {o : Obj}
    (hD : RDone w r A cap T size (one (T.drop k0)) k1 err1 at1 w1) (hc : ∀ c' L, one (T.drop k0) = .ok (c', L) → c = c') (row : (w1.alloc o).ownsRow w.heap.size e sz v 1 (enc [c])) :
    RowRel e sz enc one s (pRow size one s (T.drop k0)) w r A cap T size (T.length + 1) v [c] k1 err1 at1 (w1.alloc o) := by
  obtain ⟨hE, hR, hm⟩ := hD
  refine ⟨row, hE.alloc _, hR.keep ((Ext.refl [] w1).alloc _), ?_⟩
  unfold pRow
  rcases h1 : one (T.drop k0) with ⟨a, e1⟩ | ⟨c1, L⟩
  · rw [h1] at hm
    obtain ⟨rfl, h2, rfl⟩ := hm
    exact .inr ⟨h2, by simp, rfl⟩
  · rw [h1] at hm
    obtain ⟨rfl, rfl⟩ := hm
    obtain rfl := hc _ _ h1
    exact .inl ⟨rfl, by simp, by simp, rfl, by omega⟩
theorem RR_grown {w5 w6 : World} {o : Obj} {r : Nat} {A : Option Addr} {cap : Nat} {T : List Tok} {size k err at_ base e sz n : Nat} {v : Value} {xs : List Value} (h : RR w5 r A cap T size k err at_) (hg : (w5.alloc o).grownBy w6 v.ownBlock) (row : (w5.alloc o).ownsRow base e sz v n xs)
    (hr : r < base) (hA : T ≠ [] → ∀ b, A = some ⟨b, 0, none⟩ → b < base) : RR w6 r A cap T size k err at_ := by
  have e1 : Ext (v.ownBlock.toList) w5 w6 := ((Ext.refl _ w5).alloc o).grown hg (by intro k hk; left; rw [hk]; simp)
  have hb : ∀ x, x ∈ v.ownBlock.toList → base ≤ x := by
    intro x hx
    rcases hv : v.ownBlock with _ | y
    · rw [hv] at hx; simp at hx
    · rw [hv] at hx
      obtain rfl : x = y := by simpa using hx
      exact (row.lt x hv).1
  exact h.ext e1 (fun hx => by have := hb _ hx; omega) (fun hne b hA' hx => by have := hb _ hx; have := hA hne b hA'; omega)
theorem RowRel.next {α : Type} {e sz : Nat} {enc : List α → List Value} {one : List Tok → Res α} {s : ByteArray} {res : Res (List α)} {w wr w5 w6 : World} {r : Nat} {A : Option Addr} {cap : Nat} {T : List Tok} {size k k5 err5 at5 g at_ : Nat} {c : α} {v v' : Value} {l : List α}
    (h : RowRel e sz enc one s res w r A cap T size (g + 1) v l k 0 at_ wr) (hp : pHas s (T.drop k) = true) (hl : l.length < 16) (hk : k < T.length)
    (hsh : ∀ c L', one (T.drop (k + 1)) = .ok (c, L') → L'.length < (T.drop (k + 1)).length)
    (hD : RDone wr r A cap T size (one (T.drop (k + 1))) k5 err5 at5 w5) (hc : ∀ c' L, one (T.drop (k + 1)) = .ok (c', L) → c = c')
    (row : w6.ownsRow w.heap.size e sz v' (l.length + 1) (enc (l ++ [c]))) (hE : Ext [r] w w6) (hR6 : RR w6 r A cap T size k5 err5 at5) :
    RowRel e sz enc one s res w r A cap T size g v' (l ++ [c]) k5 err5 at5 w6 := by
  obtain ⟨hE5, hR5, hm⟩ := hD
  refine ⟨by simpa using row, hE, hR6, ?_⟩
  rcases h.st with ⟨_, h2, h3, hres, hg⟩ | ⟨h0, _⟩
  · obtain ⟨n, hn⟩ : ∃ n, 16 - l.length = n + 1 := ⟨15 - l.length, by omega⟩
    rw [hn] at hres
    have ht : (T.drop k).tail = T.drop (k + 1) := List.tail_drop
    rcases h1 : one (T.drop (k + 1)) with ⟨a, e1⟩ | ⟨c1, L⟩
    · rw [h1] at hm
      obtain ⟨rfl, h4, rfl⟩ := hm
      exact .inr ⟨h4, by simp; omega, by rw [hres, pMore_bad hp (by rw [ht]; exact h1)]⟩
    · have hsh' := hsh _ _ h1
      rw [h1] at hm
      obtain ⟨rfl, rfl⟩ := hm
      obtain rfl := hc _ _ h1
      have hle := hR5.le
      simp only [List.length_drop] at hsh'
      exact .inl ⟨rfl, by simp, by simp; omega, by rw [hres, pMore_good hp (by rw [ht]; exact h1)]; congr 1; simp; omega, by omega⟩
  · exact absurd rfl h0
theorem RowRel.full {α : Type} {e sz : Nat} {enc : List α → List Value} {one : List Tok → Res α} {s : ByteArray} {res : Res (List α)} {w wr w6 : World} {r : Nat} {A : Option Addr} {cap : Nat} {T : List Tok} {size k k6 g at_ : Nat} {c : α} {v v' : Value} {l : List α}
    (h : RowRel e sz enc one s res w r A cap T size (g + 1) v l k 0 at_ wr) (hp : pHas s (T.drop k) = true) (hl : l.length = 16)
    (row : w6.ownsRow w.heap.size e sz v' (l.length + 1) (enc (l ++ [c]))) (hE : Ext [r] w w6) (hR6 : RR w6 r A cap T size k6 30 (atOf size (T.drop (k + 1)))) :
    RowRel e sz enc one s res w r A cap T size g v' (l ++ [c]) k6 30 (atOf size (T.drop (k + 1))) w6 := by
  refine ⟨by simpa using row, hE, hR6, .inr ⟨by omega, by simp; omega, ?_⟩⟩
  rcases h.st with ⟨_, h2, h3, hres, hg⟩ | ⟨h0, _⟩
  · rw [hl] at hres
    rw [hres, show 16 - 16 = 0 from rfl, pMore_full hp, List.tail_drop]
  · exact absurd rfl h0
set_option maxRecDepth 100000 in
set_option maxHeartbeats 1000000 in
theorem rcolumns_calls (w : World) (r : Nat) (A : Option Addr) (cap : Nat) (T : List Tok) (size k0 at0 : Nat) (h : RR w r A cap T size k0 0 at0) (hsz : ∀ t ∈ T, t.1.size ≤ 4096) :
    Calls Tryz.prog 31 #[.pointer (some ⟨r, 0, none⟩)] w (RRowPost 57 2 colsV (pRow size (pCol size) sComma (T.drop k0)) w r A cap T size) := by
  obtain ⟨i0, hi, hz0, hz1, hz2⟩ := info_parts Tryz.info57
  have hr := h.lt
  have hA := fun hne b hb => h.lt2 hne b hb
  have hsm := h.small
  have HA := Lib.hid hA
  clear hA
  go_enter Tryz.func31, Tryz.ntmps31
  go_wp2_with (go_at_call 80; refine (rcol_calls w r A cap T size k0 at0 h hsz).mono ?_; rintro e w1 ⟨c, k1, err1, at1, rfl, hD, hc⟩; unfold colA)
  go_loopg [3] (T.length + 1) (fun g v wr => ∃ l k err at_, RowRel 57 2 colsV (pCol size) sComma (pRow size (pCol size) sComma (T.drop k0)) w r A cap T size g v l k err at_ wr)
  case atStart =>
    exact ⟨[c], k1, err1, at1, RowRel.start hD hc (ownsRow_lit w1 w.heap.size 57 2 1 (colV c) hD.1.size (by decide) rfl)⟩
  case round =>
    obtain ⟨l, k, err, at_, hR⟩ := hrel
    clear hD hc
    by_cases he : err = 0
    · subst he
      obtain ⟨hl1, hl2⟩ : 1 ≤ l.length ∧ l.length ≤ 16 := by
        rcases hR.st with ⟨_, h2, h3, _⟩ | ⟨h0, _⟩
        · exact ⟨h2, h3⟩
        · exact absurd rfl h0
      rcases hp : pHas sComma (T.drop k) with _ | _
      · go_wp2_with (go_at_call 32; refine (is_calls wr r A cap T size k at_ sComma true hR.rr (by decide)).mono ?_; rw [hp]; rintro e w2 ⟨rfl, h2⟩)
        go_ret
        exact hR.done_ok hp hr h2
      · obtain ⟨g', cap', rfl, _, _⟩ := hR.row.form (by omega)
        cases gk with
        | zero =>
          rcases hR.st with ⟨_, _, _, _, h5⟩ | ⟨h0, _⟩
          · have := hR.rr.le
            omega
          · exact absurd rfl h0
        | succ g =>
        have hRR := Lib.hid hR.rr
        have Hp := Lib.hid hp
        have hk : k < T.length := by
          rcases Nat.lt_or_ge k T.length with h1 | h1
          · exact h1
          · rw [List.drop_of_length_le h1] at hp
            cases hp
        have hL := Lib.hid (colsV_length l)
        have hE0 := hR.ext
        have hsz0 := hE0.size
        have hrow := hR.row
        clear hp
        by_cases hfull : l.length = 16
        · have hl16 : decide ((16 : Int) ≤ (l.length : Int)) = true := by simp; omega
          have Hf := Lib.hid hfull
          clear hfull
          go_wp2_with (first
            | (go_at_call 32; refine (is_calls wr r A cap T size k at_ sComma true hRR.out (by decide)).mono ?_; rw [Hp.out]; rintro e w2 ⟨rfl, h2⟩; have R2 := hRR.out.keep h2; have c1 := R2.c1; have f1 := R2.blk.frozen 1)
            | (go_at_call 35; refine (fail_calls _ r A cap T size (k + 1) at_ 30 (R2.adv hk).2).mono ?_; rintro e w4 ⟨rfl, h4, R4⟩)
            | (go_at_call 80; refine (rcol_old _ r A cap T size (k + 1) 30 _ R4 (by omega)).mono ?_; rintro e w5 ⟨rfl, h5⟩; have E5 := ((h2.nil.trans (R2.adv hk).1).trans h4).trans h5.nil; have R5 := R4.keep h5; have row5 := ownsRow_ext hrow E5 (by simpa using hr); have hsz5 := E5.size)
            | (at_builtin; refine wpList_append_own _ rfl _ _ 22 rfl w.heap.size 57 i0 _ 2 24 Tryz.underlying22 hi hz0 hz1 hz2 rfl (by decide) _ _ _ rfl (row5.alloc _) ⟨w5.heap.size, 0, none⟩ 1 1 [.int .i64 0, .string ⟨#[]⟩] rfl rfl ?c1 ?c2 ?c3 ?c4 ?c5 ?_; (case c1 => exact cells_new _ _ _); (case c2 => simp [Value.oneCell']); (case c3 => unfold maxLen; omega); (case c4 => omega); (case c5 => simp; omega); intro v' w6 hown' hgrow _))
          go_roundg g
          case rel =>
            exact ⟨l ++ [⟨0, ⟨#[]⟩⟩], k + 1, 30, _, RowRel.full hR Hp.out Hf.out (by rw [colsV_snoc]; exact hown') (((hE0.trans E5).alloc _).grown hgrow (by intro b hb; exact .inr ((row5.lt b hb).1))) (RR_grown R5 hgrow (row5.alloc _) hr HA.out)⟩
          case measure => omega
        · have hl16 : decide ((16 : Int) ≤ (l.length : Int)) = false := by simp; omega
          go_wp2_with (first
            | (go_at_call 32; refine (is_calls wr r A cap T size k at_ sComma true hRR.out (by decide)).mono ?_; rw [Hp.out]; rintro e w2 ⟨rfl, h2⟩; have R2 := hRR.out.keep h2; have c1 := R2.c1; have f1 := R2.blk.frozen 1)
            | (go_at_call 80; refine (rcol_calls _ r A cap T size (k + 1) at_ (R2.adv hk).2 hsz).mono ?_; rintro e w5 ⟨c, k5, err5, at5, rfl, hD, hc⟩; have E5 := (h2.nil.trans (R2.adv hk).1).trans hD.1; have row5 := ownsRow_ext hrow E5 (by simpa using hr); have hsz5 := E5.size; unfold colA)
            | (at_builtin; refine wpList_append_own _ rfl _ _ 22 rfl w.heap.size 57 i0 _ 2 24 Tryz.underlying22 hi hz0 hz1 hz2 rfl (by decide) _ _ _ rfl (row5.alloc _) ⟨w5.heap.size, 0, none⟩ 1 1 [.int .i64 c.op, .string c.name] rfl rfl ?c1 ?c2 ?c3 ?c4 ?c5 ?_; (case c1 => exact cells_new _ _ _); (case c2 => simp [Value.oneCell']); (case c3 => unfold maxLen; omega); (case c4 => omega); (case c5 => simp; omega); intro v' w6 hown' hgrow _))
          go_roundg g
          case rel =>
            exact ⟨l ++ [c], k5, err5, at5, RowRel.next hR Hp.out (by omega) hk (fun c L' h => pCol_shorter h) ⟨E5, hD.2⟩ hc (by rw [colsV_snoc]; exact hown') (((hE0.trans E5).alloc _).grown hgrow (by intro b hb; exact .inr ((row5.lt b hb).1))) (RR_grown hD.2.1 hgrow (row5.alloc _) hr HA.out)⟩
          case measure => omega
    · go_wp2_with (go_at_call 32; refine (is_old wr r A cap T size k err at_ sComma true hR.rr he).mono ?_; rintro e w2 ⟨rfl, h2⟩)
      go_ret
      exact hR.done_err he hr h2
end Go.Proofs.YtkpholfdjgdjnaaGreatDoor
namespace Go.Proofs.YtkpholfdjgdjnaaGreatDoor
open Go Go.RowKit Go.Proofs
def condA (c : CondZ) : Value := .agg #[.int .i64 c.col.op, .string c.col.name, .int .i64 c.cmp, .int .i64 c.num]
def RCondPost (w : World) (r : Nat) (A : Option Addr) (cap : Nat) (T : List Tok) (size k : Nat) (x : Ending) (w' : World) : Prop :=
  ∃ c k' err' at', x = .returned (condA c) ∧ RDone w r A cap T size (pCond size (T.drop k)) k' err' at' w' ∧ ∀ c' L, pCond size (T.drop k) = .ok (c', L) → c = c'
structure OwnC (s b : Nat) (W : World) (n : Int) (nm : ByteArray) (m x : Int) : Prop where
  c0 : W.cell? ⟨b, 0, none⟩ = some (.int .i64 n)
  c1 : W.cell? ⟨b, 1, none⟩ = some (.string nm)
  c2 : W.cell? ⟨b, 2, none⟩ = some (.int .i64 m)
  c3 : W.cell? ⟨b, 3, none⟩ = some (.int .i64 x)
  f2 : W.frozen? ⟨b, 2, none⟩ = false
  f3 : W.frozen? ⟨b, 3, none⟩ = false
  d0 : W.cell? ⟨s, 0, none⟩ = some (.int .i64 0)
  d1 : W.cell? ⟨s, 1, none⟩ = some (.string ⟨#[]⟩)
  d2 : W.cell? ⟨s, 2, none⟩ = some (.int .i64 0)
  d3 : W.cell? ⟨s, 3, none⟩ = some (.int .i64 0)
  g0 : W.frozen? ⟨s, 0, none⟩ = false
  g1 : W.frozen? ⟨s, 1, none⟩ = false
  g2 : W.frozen? ⟨s, 2, none⟩ = false
  g3 : W.frozen? ⟨s, 3, none⟩ = false
theorem OwnC.ext {s b : Nat} {W W' : World} {n : Int} {nm : ByteArray} {m x : Int} {S : List Nat} (h : OwnC s b W n nm m x) (e : Ext S W W') (hs : s ∉ S) (hb : b ∉ S) : OwnC s b W' n nm m x := by
  have l0 : s < W.heap.size := World.block_lt_of_cell? W _ h.d0
  have l1 : b < W.heap.size := World.block_lt_of_cell? W _ h.c0
  exact ⟨e.keeps h.c0 hb, e.keeps h.c1 hb, e.keeps h.c2 hb, e.keeps h.c3 hb, (e.frozen l1 hb).trans h.f2, (e.frozen l1 hb).trans h.f3,
    e.keeps h.d0 hs, e.keeps h.d1 hs, e.keeps h.d2 hs, e.keeps h.d3 hs, (e.frozen l0 hs).trans h.g0, (e.frozen l0 hs).trans h.g1, (e.frozen l0 hs).trans h.g2, (e.frozen l0 hs).trans h.g3⟩
theorem setCell_cell {W : World} {p q : Addr} {u v : Value} (h : W.cell? q = some v) (hne : p ≠ q) : (W.setCell p u).cell? q = some v := by rw [World.cell?_setCell_other (h := hne)]; exact h
theorem OwnC.set2 {s b : Nat} {W : World} {n : Int} {nm : ByteArray} {m x : Int} (h : OwnC s b W n nm m x) (hsb : s ≠ b) (m' : Int) : OwnC s b (W.setCell ⟨b, 2, none⟩ (.int .i64 m')) n nm m' x :=
  ⟨setCell_cell h.c0 (by simp), setCell_cell h.c1 (by simp), World.cell?_setCell_same _ _ _ h.c2, setCell_cell h.c3 (by simp), by rw [World.frozen?_setCell]; exact h.f2, by rw [World.frozen?_setCell]; exact h.f3,
    setCell_cell h.d0 (by simp), setCell_cell h.d1 (by simp), setCell_cell h.d2 (by simp [Ne.symm hsb]), setCell_cell h.d3 (by simp), by rw [World.frozen?_setCell]; exact h.g0, by rw [World.frozen?_setCell]; exact h.g1, by rw [World.frozen?_setCell]; exact h.g2, by rw [World.frozen?_setCell]; exact h.g3⟩
theorem absP {P : Program} {c : Code} {Q : Exit → Act → World → Prop} {a : Act} {W : World} (h : ∀ W', W' = W → c.wp P Q a W') : c.wp P Q a W := h W rfl
theorem four_sets {w W : World} {r : Nat} {A : Option Addr} {cap : Nat} {T : List Tok} {size k err at_ : Nat} (E : Ext [r] w W) (h : RR W r A cap T size k err at_) (hr : r < w.heap.size) (HA : T ≠ [] → ∀ b, A = some ⟨b, 0, none⟩ → b < w.heap.size) (u0 u1 u2 u3 : Value) :
    Ext [r] w ((((W.setCell ⟨w.heap.size, 0, none⟩ u0).setCell ⟨w.heap.size, 1, none⟩ u1).setCell ⟨w.heap.size, 2, none⟩ u2).setCell ⟨w.heap.size, 3, none⟩ u3) ∧
    RR ((((W.setCell ⟨w.heap.size, 0, none⟩ u0).setCell ⟨w.heap.size, 1, none⟩ u1).setCell ⟨w.heap.size, 2, none⟩ u2).setCell ⟨w.heap.size, 3, none⟩ u3) r A cap T size k err at_ := by
  have ha : T ≠ [] → ∀ b, A = some ⟨b, 0, none⟩ → w.heap.size ≠ b := fun hne b hb => by have := HA hne b hb; omega
  have hn : w.heap.size ≠ r := by omega
  exact ⟨(((E.setCell _ (by simp) _).setCell _ (by simp) _).setCell _ (by simp) _).setCell _ (by simp) _,
    (((h.set_new ⟨w.heap.size, 0, none⟩ _ hn ha).set_new ⟨w.heap.size, 1, none⟩ _ hn ha).set_new ⟨w.heap.size, 2, none⟩ _ hn ha).set_new ⟨w.heap.size, 3, none⟩ _ hn ha⟩
theorem RCondPost.bad {w W : World} {r : Nat} {A : Option Addr} {cap : Nat} {T : List Tok} {size k k' err at' : Nat} (c : CondZ) (E : Ext [r] w W) (h : RR W r A cap T size k' err at') (he : err ≠ 0) (hp : pCond size (T.drop k) = .error (at', err)) (hr : r < w.heap.size) (HA : T ≠ [] → ∀ b, A = some ⟨b, 0, none⟩ → b < w.heap.size) (u0 u1 u2 u3 : Value) :
    RCondPost w r A cap T size k (.returned (condA c)) ((((W.setCell ⟨w.heap.size, 0, none⟩ u0).setCell ⟨w.heap.size, 1, none⟩ u1).setCell ⟨w.heap.size, 2, none⟩ u2).setCell ⟨w.heap.size, 3, none⟩ u3) := by
  have hf := four_sets E h hr HA u0 u1 u2 u3
  refine ⟨c, k', err, at', rfl, ?_, ?_⟩
  · rw [hp]; exact ⟨hf.1, hf.2, rfl, he, rfl⟩
  · rw [hp]
    intro c' L hc
    cases hc
theorem RCondPost.good {w W : World} {r : Nat} {A : Option Addr} {cap : Nat} {T : List Tok} {size k k' at' : Nat} (c : CondZ) (E : Ext [r] w W) (h : RR W r A cap T size k' 0 at') (hp : pCond size (T.drop k) = .ok (c, T.drop k')) (hr : r < w.heap.size) (HA : T ≠ [] → ∀ b, A = some ⟨b, 0, none⟩ → b < w.heap.size) (u0 u1 u2 u3 : Value) :
    RCondPost w r A cap T size k (.returned (condA c)) ((((W.setCell ⟨w.heap.size, 0, none⟩ u0).setCell ⟨w.heap.size, 1, none⟩ u1).setCell ⟨w.heap.size, 2, none⟩ u2).setCell ⟨w.heap.size, 3, none⟩ u3) := by
  have hf := four_sets E h hr HA u0 u1 u2 u3
  refine ⟨c, k', 0, at', rfl, ?_, ?_⟩
  · rw [hp]; exact ⟨hf.1, hf.2, rfl, rfl⟩
  · rw [hp]
    intro c' L hc
    cases hc
    rfl
set_option maxRecDepth 100000 in
set_option maxHeartbeats 2000000 in
theorem rcond_calls (w : World) (r : Nat) (A : Option Addr) (cap : Nat) (T : List Tok) (size k at_ : Nat) (h : RR w r A cap T size k 0 at_) (hsz : ∀ t ∈ T, t.1.size ≤ 4096) :
    Calls Tryz.prog 81 #[.pointer (some ⟨r, 0, none⟩)] w (RCondPost w r A cap T size k) := by
  have hr := h.lt
  have HA := Lib.hid (fun hne b hb => h.lt2 hne b hb)
  go_enter Tryz.func81, Tryz.ntmps81
  go_wp2_with (go_at_call 80; refine (rcol_calls _ r A cap T size k at_ (h.keep ((Ext.refl [] w).alloc _)) hsz).mono ?_; rintro e w1 ⟨c, k1, err1, at1, rfl, hD, hc⟩; unfold colA; have E1 := Lib.hid hD.1)
  refine absP ?_
  intro W hW
  have E : Ext [r] w W := by rw [hW]; exact (((Ext.refl [r] w).alloc _).trans E1.out).alloc _
  have RW := hD.2.1.keep (show Ext [] w1 W by rw [hW]; exact (Ext.refl [] w1).alloc _)
  have hs1 : w.heap.size < w1.heap.size := by have := E1.out.size; simp at this; omega
  have O : OwnC w.heap.size w1.heap.size W c.op c.name 0 0 := by
    have hb : w.heap.size ∉ [r] := by simp; omega
    have B : Blk w1 w.heap.size [.int .i64 0, .string ⟨#[]⟩, .int .i64 0, .int .i64 0] 59 := (Blk.new w [.int .i64 0, .string ⟨#[]⟩, .int .i64 0, .int .i64 0] 59).ext E1.out hb
    have B' := B.alloc (.cells #[.int .i64 c.op, .string c.name, .int .i64 0, .int .i64 0] 59)
    have C' := Blk.new w1 [.int .i64 c.op, .string c.name, .int .i64 0, .int .i64 0] 59
    rw [hW]
    exact ⟨C'.cell 0, C'.cell 1, C'.cell 2, C'.cell 3, C'.frozen 2, C'.frozen 3, B'.cell 0, B'.cell 1, B'.cell 2, B'.cell 3, B'.frozen 0, B'.frozen 1, B'.frozen 2, B'.frozen 3⟩
  have ⟨c0, c1, c2, c3, f2, f3, d0, d1, d2, d3, g0, g1, g2, g3⟩ := O
  have hm := Lib.hid hD.2.2
  have hrn : r ≠ w.heap.size := by omega
  have hrn1 : r ≠ w1.heap.size := by omega
  clear hW hD
  rcases hpc : pCol size (T.drop k) with ⟨a, e1⟩ | ⟨c', L⟩
  · have HP : Hid (pCond size (T.drop k) = .error (a, e1)) := by unfold Hid pCond; rw [hpc]
    rw [hpc] at hm
    obtain ⟨rfl, he1, rfl⟩ := hm.out
    have r3 := RW.c3
    have hne : ((err1 : Int) == 0) = false := by simp; omega
    clear hm hpc hc
    go_wp2_with fail
    go_quiet (fail)
    go_wp2_with (go_at_call 35; refine (fail_old _ r A cap T size k1 err1 at1 61 (RW.keep ((Ext.refl [] _).drewN _)) he1).mono ?_; rintro e w2 ⟨rfl, rfl⟩)
    refine bodyPost_ret (v := .agg #[.int .i64 c.op, .string c.name, .int .i64 0, .int .i64 0]) (by simp [results, Tryz.results81, go_sem, d0, d1, d2, d3, g0, g1, g2, g3]) rfl ?_
    exact RCondPost.bad ⟨c, 0, 0⟩ (E.drewN _) (RW.keep ((Ext.refl [] _).drewN _)) he1 HP.out hr HA.out _ _ _ _
  · obtain rfl := hc c' L hpc
    rw [hpc] at hm
    obtain ⟨rfl, hdr⟩ := hm.out
    have HC : Hid (pCond size (T.drop k) = if cmpOf (T.drop k1) = 0 then .error (atOf size (T.drop k1), 61) else match pNum size (-9223372036854775808) 9223372036854775807 (T.drop k1).tail with | .error e => .error e | .ok (n, L2) => .ok (⟨c, cmpOf (T.drop k1), n⟩, L2)) := by
      unfold Hid pCond; rw [hpc, ← hdr]; rfl
    clear hm hpc hc hdr
    have r0 := RW.c0
    have r1 := RW.c1
    have r3 := RW.c3
    have hsm := RW.small
    rcases Nat.lt_or_ge k1 T.length with hk | hk
    · obtain ⟨t, ht⟩ : ∃ t, T[k1]? = some t := ⟨_, List.getElem?_eq_getElem hk⟩
      have hdrop : T.drop k1 = t :: T.drop (k1 + 1) := by
        have := List.getElem?_eq_getElem hk
        rw [ht] at this
        injection this with this
        rw [List.drop_eq_getElem_cons hk, this]
      obtain ⟨b, rfl, hbr, t0, t1, t2⟩ := RW.tok t ht
      have hbw : b < w.heap.size := HA.out (by rintro rfl; simp at hk) b rfl
      have hki : (k1 : Int) < (T.length : Int) := by omega
      have hd : decide ((k1 : Int) < (T.length : Int)) = true := by simpa using hk
      have Ht := Lib.hid ht
      have hcm : Hid (cmpOf (T.drop k1) = idx cmpW t.1) := by unfold Hid cmpOf; rw [hdrop]
      have hat : Hid (atOf size (T.drop k1) = t.2) := by unfold Hid; rw [hdrop]; rfl
      clear ht
      rcases hs : signT t.1 with _ | _
      · have HP : Hid (pCond size (T.drop k) = .error (t.2, 61)) := by
          have h0 : idx cmpW t.1 = 0 := by
            rcases Nat.eq_zero_or_pos (idx cmpW t.1) with h1 | h1
            · exact h1
            · rw [cmp_sign (by omega)] at hs
              cases hs
          unfold Hid; rw [HC.out, if_pos (by rw [hcm.out, h0]), hat.out]
        rw [hs] at t2
        clear hs hdrop
        go_wp2_with fail
        go_quiet (fail)
        go_wp2_with (go_at_call 35; refine (fail_word _ r _ cap T size k1 at1 61 t (RW.keep ((Ext.refl [] _).drewN _)) Ht.out).mono ?_; rintro e w2 ⟨rfl, h2, R2⟩; have O2 := (OwnC.ext (S := []) ⟨c0, c1, c2, c3, f2, f3, d0, d1, d2, d3, g0, g1, g2, g3⟩ ((Ext.refl [] W).drewN _) (by simp) (by simp)).ext h2 (by simp; omega) (by simp; omega); clear c0 c1 c2 c3 f2 f3 d0 d1 d2 d3 g0 g1 g2 g3; obtain ⟨c0, c1, c2, c3, f2, f3, d0, d1, d2, d3, g0, g1, g2, g3⟩ := O2)
        refine bodyPost_ret (v := .agg #[.int .i64 c.op, .string c.name, .int .i64 0, .int .i64 0]) (by simp [results, Tryz.results81, go_sem, d0, d1, d2, d3, g0, g1, g2, g3]) rfl ?_
        exact RCondPost.bad ⟨c, 0, 0⟩ ((E.drewN _).trans h2) R2 (by omega) HP.out hr HA.out _ _ _ _
      · rw [hs] at t2
        obtain ⟨m, hm⟩ : ∃ m, idx cmpW t.1 = m := ⟨_, rfl⟩
        have Hm := Lib.hid hm
        have hrW : r < W.heap.size := RW.lt
        have hcW : w1.heap.size < W.heap.size := World.block_lt_of_cell? W _ c0
        have hcc : ∀ n o, ((W.drewN n).alloc o).cell? ⟨w1.heap.size, 2, none⟩ = some (.int .i64 0) := fun n o => (((Ext.refl [] W).drewN n).alloc o).keeps c2 (by simp)
        have hcf : ∀ n o, ((W.drewN n).alloc o).frozen? ⟨w1.heap.size, 2, none⟩ = false := fun n o => ((((Ext.refl [] W).drewN n).alloc o).frozen (p := ⟨w1.heap.size, 2, none⟩) hcW (by simp)).trans f2
        clear hs hdrop hm
        go_wp2_with fail
        go_quiet (fail)
        go_wp2_with fail
        go_region_held3 (fun w' => w'.cell? ⟨r, 0, none⟩ = some (.slice (some ⟨b, 0, none⟩) T.length cap) ∧ w'.cell? ⟨r, 1, none⟩ = some (.int .i64 k1) ∧ w'.cell? ⟨b, k1 * 3, none⟩ = some (.string t.1)) (first | (refine ⟨Ext.keeps (S := [w1.heap.size]) ?_ r0 (by simp; omega), Ext.keeps (S := [w1.heap.size]) ?_ r1 (by simp; omega), Ext.keeps (S := [w1.heap.size]) ?_ t0 (by simp; omega)⟩ <;> (repeat (first | exact Ext.refl _ _ | with_reducible refine Ext.alloc ?_ _ | with_reducible refine Ext.drewN ?_ _ | with_reducible refine Ext.drew ?_ | with_reducible refine Ext.setCell ?_ _ (by simp) _))) | go_keep)
          (first
            | (go_at_call 45; refine (cmpWords_calls _).mono ?_; rintro e w' ⟨rfl, rfl⟩)
            | (go_at_call 131; refine (place_is _ cmpW t.1 _ 7 m rfl (by omega) (by omega) ?_ Hm.out).mono ?_; (exact tab_cells _ cmpW 9 7 _ (by simp [World.drewN]) rfl); rintro e w' ⟨rfl, rfl⟩))
        refine absW ?_
        intro W2 hW2
        have E2 : Ext [r] w W2 := by rw [hW2]; exact ((E.drewN _).alloc _).setCell ⟨w1.heap.size, 2, none⟩ (by simp; omega) _
        have R2 : RR W2 r (some ⟨b, 0, none⟩) cap T size k1 0 at1 := by
          rw [hW2]
          exact (RW.keep (((Ext.refl [] W).drewN (nq + 1)).alloc (.cells (tabV cmpW) 9))).set_new ⟨w1.heap.size, 2, none⟩ (.int .i64 m) (by simp; omega) (by intro _ b' hb'; injection hb' with hb'; injection hb'; simp; omega)
        have O2 : OwnC w.heap.size w1.heap.size W2 c.op c.name m 0 := by
          have O1 := OwnC.ext (S := []) ⟨c0, c1, c2, c3, f2, f3, d0, d1, d2, d3, g0, g1, g2, g3⟩ (((Ext.refl [] W).drewN (nq + 1)).alloc (.cells (tabV cmpW) 9)) (by simp) (by simp)
          rw [hW2]
          generalize (W.drewN (nq + 1)).alloc (.cells (tabV cmpW) 9) = X at O1
          exact O1.set2 (by omega) m
        clear hW2 hcc hcf c0 c1 c2 c3 f2 f3 d0 d1 d2 d3 g0 g1 g2 g3 r0 r1 r3 t0 t1 t2 RW E hrW hcW
        have ⟨c0, c1, c2, c3, f2, f3, d0, d1, d2, d3, g0, g1, g2, g3⟩ := O2
        by_cases hm0 : m = 0
        · subst hm0
          have HP : Hid (pCond size (T.drop k) = .error (t.2, 61)) := by unfold Hid; rw [HC.out, if_pos (by rw [hcm.out, Hm.out]), hat.out]
          go_wp2_with (go_at_call 35; refine (fail_word _ r _ cap T size k1 at1 61 t R2 Ht.out).mono ?_; rintro e w2 ⟨rfl, h2, R3⟩; have O3 := O2.ext h2 (by simp; omega) (by simp; omega); clear c0 c1 c2 c3 f2 f3 d0 d1 d2 d3 g0 g1 g2 g3; obtain ⟨c0, c1, c2, c3, f2, f3, d0, d1, d2, d3, g0, g1, g2, g3⟩ := O3)
          refine bodyPost_ret (v := .agg #[.int .i64 c.op, .string c.name, .int .i64 0, .int .i64 0]) (by simp [results, Tryz.results81, go_sem, d0, d1, d2, d3, g0, g1, g2, g3]) rfl ?_
          exact RCondPost.bad ⟨c, 0, 0⟩ (E2.trans h2) R3 (by omega) HP.out hr HA.out _ _ _ _
        · have hmb : ((m : Int) == 0) = false := by simp; omega
          have hcm0 : cmpOf (T.drop k1) ≠ 0 := by rw [hcm.out, Hm.out]; exact hm0
          have HC2 : Hid (pCond size (T.drop k) = match pNum size (-9223372036854775808) 9223372036854775807 (T.drop (k1 + 1)) with | .error e => .error e | .ok (n, L2) => .ok (⟨c, m, n⟩, L2)) := by
            unfold Hid; rw [HC.out, if_neg hcm0, List.tail_drop, hcm.out, Hm.out]
          have r1 := R2.c1
          have q1 := R2.blk.frozen 1
          clear hm0 hcm0 HC
          go_wp2_with (go_at_call 34; refine (rnum_calls _ r _ cap T size (k1 + 1) at1 _ _ (R2.adv hk).2 hsz).mono ?_; rintro e w4 ⟨v, k4, err4, at4, rfl, hD4, hv⟩; have O4 := (O2.ext (R2.adv hk).1 (by simp; omega) (by simp; omega)).ext hD4.1 (by simp; omega) (by simp; omega); clear c0 c1 c2 c3 f2 f3 d0 d1 d2 d3 g0 g1 g2 g3 r1 q1; obtain ⟨c0, c1, c2, c3, f2, f3, d0, d1, d2, d3, g0, g1, g2, g3⟩ := O4)
          refine bodyPost_ret (v := .agg #[.int .i64 c.op, .string c.name, .int .i64 m, .int .i64 v]) (by simp [results, Tryz.results81, go_sem, c0, c1, c2, c3, d0, d1, d2, d3, g0, g1, g2, g3]) rfl ?_
          have E5 := (((E2.trans (R2.adv hk).1).trans hD4.1).setCell ⟨w1.heap.size, 3, none⟩ (by simp; omega) (.int .i64 v))
          have R5 := hD4.2.1.set_new ⟨w1.heap.size, 3, none⟩ (.int .i64 v) (by simp; omega) (by intro _ b' hb'; injection hb' with hb'; injection hb'; simp; omega)
          have hm4 := hD4.2.2
          rcases hpn : pNum size (-9223372036854775808) 9223372036854775807 (T.drop (k1 + 1)) with ⟨a, e4⟩ | ⟨n, L2⟩
          · have HP : pCond size (T.drop k) = .error (a, e4) := by rw [HC2.out, hpn]
            rw [hpn] at hm4
            obtain ⟨rfl, he4, rfl⟩ := hm4
            exact RCondPost.bad ⟨c, m, v⟩ E5 R5 he4 HP hr HA.out _ _ _ _
          · have HP : pCond size (T.drop k) = .ok (⟨c, m, n⟩, L2) := by rw [HC2.out, hpn]
            obtain rfl := hv _ _ hpn
            rw [hpn] at hm4
            obtain ⟨rfl, rfl⟩ := hm4
            exact RCondPost.good ⟨c, m, v⟩ E5 R5 HP hr HA.out _ _ _ _
    · have HP : Hid (pCond size (T.drop k) = .error (size, 61)) := by
        have hd0 := List.drop_of_length_le hk
        unfold Hid; rw [HC.out, hd0]; rfl
      have hkl : k1 = T.length := by have := RW.le; omega
      subst hkl
      go_wp2_with fail
      go_quiet (fail)
      go_wp2_with (go_at_call 35; refine (fail_end _ r _ cap T size _ at1 61 (RW.keep ((Ext.refl [] _).drewN _)) rfl).mono ?_; rintro e w2 ⟨rfl, h2, R2⟩; have O2 := (OwnC.ext (S := []) ⟨c0, c1, c2, c3, f2, f3, d0, d1, d2, d3, g0, g1, g2, g3⟩ ((Ext.refl [] W).drewN _) (by simp) (by simp)).ext h2 (by simp; omega) (by simp; omega); clear c0 c1 c2 c3 f2 f3 d0 d1 d2 d3 g0 g1 g2 g3; obtain ⟨c0, c1, c2, c3, f2, f3, d0, d1, d2, d3, g0, g1, g2, g3⟩ := O2)
      refine bodyPost_ret (v := .agg #[.int .i64 c.op, .string c.name, .int .i64 0, .int .i64 0]) (by simp [results, Tryz.results81, go_sem, d0, d1, d2, d3, g0, g1, g2, g3]) rfl ?_
      exact RCondPost.bad ⟨c, 0, 0⟩ ((E.drewN _).trans h2) R2 (by omega) HP.out hr HA.out _ _ _ _
end Go.Proofs.YtkpholfdjgdjnaaGreatDoor
namespace Go.Proofs.YtkpholfdjgdjnaaGreatDoor
open Go Go.RowKit Go.Proofs
theorem Tryz.info59 : (Tryz.prog.info? 59).map (fun i => (i.zero, i.size, i.bytes)) = some (some (.agg #[.int .i64 0, .string ⟨#[]⟩, .int .i64 0, .int .i64 0]), 4, 40) := by kernel_rfl
def condV (c : CondZ) : List Value := [.int .i64 c.col.op, .string c.col.name, .int .i64 c.cmp, .int .i64 c.num]
def condsV (l : List CondZ) : List Value := l.flatMap condV
theorem condsV_snoc (l : List CondZ) (c : CondZ) : condsV (l ++ [c]) = condsV l ++ condV c := by simp [condsV]
theorem condsV_length (l : List CondZ) : (condsV l).length = l.length * 4 := by
  induction l with
  | nil => rfl
  | cons t T ih => simp only [condsV, List.flatMap_cons, List.length_append, List.length_cons] at *; simp [condV, ih]; omega
set_option maxRecDepth 100000 in
theorem rcond_old (w : World) (r : Nat) (A : Option Addr) (cap : Nat) (T : List Tok) (size k err at_ : Nat) (h : RR w r A cap T size k err at_) (he : err ≠ 0) :
    Calls Tryz.prog 81 #[.pointer (some ⟨r, 0, none⟩)] w fun x w' => x = .returned (.agg #[.int .i64 0, .string ⟨#[]⟩, .int .i64 0, .int .i64 0]) ∧ Ext [] w w' := by
  have hr := h.lt
  have hne : ((err : Int) == 0) = false := by simp; omega
  go_enter Tryz.func81, Tryz.ntmps81
  go_wp2_with (go_at_call 80; refine (rcol_old _ r A cap T size k err at_ (h.keep ((Ext.refl [] w).alloc _)) he).mono ?_; rintro e w1 ⟨rfl, E1⟩)
  refine absP ?_
  intro W hW
  have E : Ext [] w W := by rw [hW]; exact (((Ext.refl [] w).alloc _).trans E1).alloc _
  have RW := h.keep E
  have hs1 : w.heap.size < w1.heap.size := by have := E1.size; simp at this; omega
  have O : OwnC w.heap.size w1.heap.size W 0 ⟨#[]⟩ 0 0 := by
    have B : Blk w1 w.heap.size [.int .i64 0, .string ⟨#[]⟩, .int .i64 0, .int .i64 0] 59 := (Blk.new w [.int .i64 0, .string ⟨#[]⟩, .int .i64 0, .int .i64 0] 59).ext E1 (by simp)
    have B' := B.alloc (.cells #[.int .i64 0, .string ⟨#[]⟩, .int .i64 0, .int .i64 0] 59)
    have C' := Blk.new w1 [.int .i64 0, .string ⟨#[]⟩, .int .i64 0, .int .i64 0] 59
    rw [hW]
    exact ⟨C'.cell 0, C'.cell 1, C'.cell 2, C'.cell 3, C'.frozen 2, C'.frozen 3, B'.cell 0, B'.cell 1, B'.cell 2, B'.cell 3, B'.frozen 0, B'.frozen 1, B'.frozen 2, B'.frozen 3⟩
  obtain ⟨c0, c1, c2, c3, f2, f3, d0, d1, d2, d3, g0, g1, g2, g3⟩ := O
  have r3 := RW.c3
  clear hW
  go_wp2_with fail
  go_quiet (fail)
  go_wp2_with (go_at_call 35; refine (fail_old _ r A cap T size k err at_ 61 (RW.keep ((Ext.refl [] _).drewN _)) he).mono ?_; rintro e w2 ⟨rfl, rfl⟩)
  refine bodyPost_ret (v := .agg #[.int .i64 0, .string ⟨#[]⟩, .int .i64 0, .int .i64 0]) (by simp [results, Tryz.results81, go_sem, c0, c1, c2, c3, d0, d1, d2, d3, g0, g1, g2, g3]) rfl ?_
  exact ⟨rfl, ((((E.drewN _).setCell _ (by simp) _).setCell _ (by simp) _).setCell _ (by simp) _).setCell _ (by simp) _⟩
set_option maxRecDepth 100000 in
set_option maxHeartbeats 1000000 in
theorem rconditions_calls (w : World) (r : Nat) (A : Option Addr) (cap : Nat) (T : List Tok) (size k0 at0 : Nat) (h : RR w r A cap T size k0 0 at0) (hsz : ∀ t ∈ T, t.1.size ≤ 4096) :
    Calls Tryz.prog 33 #[.pointer (some ⟨r, 0, none⟩)] w (RRowPost 59 4 condsV (pRow size (pCond size) sAnd (T.drop k0)) w r A cap T size) := by
  obtain ⟨i0, hi, hz0, hz1, hz2⟩ := info_parts Tryz.info59
  have hr := h.lt
  have hA := fun hne b hb => h.lt2 hne b hb
  have hsm := h.small
  have HA := Lib.hid hA
  clear hA
  go_enter Tryz.func33, Tryz.ntmps33
  go_wp2_with (go_at_call 81; refine (rcond_calls w r A cap T size k0 at0 h hsz).mono ?_; rintro e w1 ⟨c, k1, err1, at1, rfl, hD, hc⟩; unfold condA)
  go_loopg [3] (T.length + 1) (fun g v wr => ∃ l k err at_, RowRel 59 4 condsV (pCond size) sAnd (pRow size (pCond size) sAnd (T.drop k0)) w r A cap T size g v l k err at_ wr)
  case atStart =>
    exact ⟨[c], k1, err1, at1, RowRel.start hD hc (ownsRow_lit w1 w.heap.size 59 4 1 (condV c) hD.1.size (by decide) rfl)⟩
  case round =>
    obtain ⟨l, k, err, at_, hR⟩ := hrel
    clear hD hc
    by_cases he : err = 0
    · subst he
      obtain ⟨hl1, hl2⟩ : 1 ≤ l.length ∧ l.length ≤ 16 := by
        rcases hR.st with ⟨_, h2, h3, _⟩ | ⟨h0, _⟩
        · exact ⟨h2, h3⟩
        · exact absurd rfl h0
      rcases hp : pHas sAnd (T.drop k) with _ | _
      · go_wp2_with (go_at_call 32; refine (is_calls wr r A cap T size k at_ sAnd false hR.rr (by decide)).mono ?_; rw [hp]; rintro e w2 ⟨rfl, h2⟩)
        go_ret
        exact hR.done_ok hp hr h2
      · obtain ⟨g', cap', rfl, _, _⟩ := hR.row.form (by omega)
        cases gk with
        | zero =>
          rcases hR.st with ⟨_, _, _, _, h5⟩ | ⟨h0, _⟩
          · have := hR.rr.le
            omega
          · exact absurd rfl h0
        | succ g =>
        have hRR := Lib.hid hR.rr
        have Hp := Lib.hid hp
        have hk : k < T.length := by
          rcases Nat.lt_or_ge k T.length with h1 | h1
          · exact h1
          · rw [List.drop_of_length_le h1] at hp
            cases hp
        have hL := Lib.hid (condsV_length l)
        have hE0 := hR.ext
        have hsz0 := hE0.size
        have hrow := hR.row
        clear hp
        by_cases hfull : l.length = 16
        · have hl16 : decide ((16 : Int) ≤ (l.length : Int)) = true := by simp; omega
          have Hf := Lib.hid hfull
          clear hfull
          go_wp2_with (first
            | (go_at_call 32; refine (is_calls wr r A cap T size k at_ sAnd false hRR.out (by decide)).mono ?_; rw [Hp.out]; rintro e w2 ⟨rfl, h2⟩; have R2 := hRR.out.keep h2; have c1 := R2.c1; have f1 := R2.blk.frozen 1)
            | (go_at_call 35; refine (fail_calls _ r A cap T size (k + 1) at_ 30 (R2.adv hk).2).mono ?_; rintro e w4 ⟨rfl, h4, R4⟩)
            | (go_at_call 81; refine (rcond_old _ r A cap T size (k + 1) 30 _ R4 (by omega)).mono ?_; rintro e w5 ⟨rfl, h5⟩; have E5 := ((h2.nil.trans (R2.adv hk).1).trans h4).trans h5.nil; have R5 := R4.keep h5; have row5 := ownsRow_ext hrow E5 (by simpa using hr); have hsz5 := E5.size)
            | (at_builtin; refine wpList_append_own _ rfl _ _ 23 rfl w.heap.size 59 i0 _ 4 40 Tryz.underlying23 hi hz0 hz1 hz2 rfl (by decide) _ _ _ rfl (row5.alloc _) ⟨w5.heap.size, 0, none⟩ 1 1 [.int .i64 0, .string ⟨#[]⟩, .int .i64 0, .int .i64 0] rfl rfl ?c1 ?c2 ?c3 ?c4 ?c5 ?_; (case c1 => exact cells_new _ _ _); (case c2 => simp [Value.oneCell']); (case c3 => unfold maxLen; omega); (case c4 => omega); (case c5 => simp; omega); intro v' w6 hown' hgrow _))
          go_roundg g
          case rel =>
            exact ⟨l ++ [⟨⟨0, ⟨#[]⟩⟩, 0, 0⟩], k + 1, 30, _, RowRel.full hR Hp.out Hf.out (by rw [condsV_snoc]; exact hown') (((hE0.trans E5).alloc _).grown hgrow (by intro b hb; exact .inr ((row5.lt b hb).1))) (RR_grown R5 hgrow (row5.alloc _) hr HA.out)⟩
          case measure => omega
        · have hl16 : decide ((16 : Int) ≤ (l.length : Int)) = false := by simp; omega
          go_wp2_with (first
            | (go_at_call 32; refine (is_calls wr r A cap T size k at_ sAnd false hRR.out (by decide)).mono ?_; rw [Hp.out]; rintro e w2 ⟨rfl, h2⟩; have R2 := hRR.out.keep h2; have c1 := R2.c1; have f1 := R2.blk.frozen 1)
            | (go_at_call 81; refine (rcond_calls _ r A cap T size (k + 1) at_ (R2.adv hk).2 hsz).mono ?_; rintro e w5 ⟨c, k5, err5, at5, rfl, hD, hc⟩; have E5 := (h2.nil.trans (R2.adv hk).1).trans hD.1; have row5 := ownsRow_ext hrow E5 (by simpa using hr); have hsz5 := E5.size; unfold condA)
            | (at_builtin; refine wpList_append_own _ rfl _ _ 23 rfl w.heap.size 59 i0 _ 4 40 Tryz.underlying23 hi hz0 hz1 hz2 rfl (by decide) _ _ _ rfl (row5.alloc _) ⟨w5.heap.size, 0, none⟩ 1 1 [.int .i64 c.col.op, .string c.col.name, .int .i64 c.cmp, .int .i64 c.num] rfl rfl ?c1 ?c2 ?c3 ?c4 ?c5 ?_; (case c1 => exact cells_new _ _ _); (case c2 => simp [Value.oneCell']); (case c3 => unfold maxLen; omega); (case c4 => omega); (case c5 => simp; omega); intro v' w6 hown' hgrow _))
          go_roundg g
          case rel =>
            exact ⟨l ++ [c], k5, err5, at5, RowRel.next hR Hp.out (by omega) hk (fun c L' h => pCond_shorter h) ⟨E5, hD.2⟩ hc (by rw [condsV_snoc]; exact hown') (((hE0.trans E5).alloc _).grown hgrow (by intro b hb; exact .inr ((row5.lt b hb).1))) (RR_grown hD.2.1 hgrow (row5.alloc _) hr HA.out)⟩
          case measure => omega
    · go_wp2_with (go_at_call 32; refine (is_old wr r A cap T size k err at_ sAnd false hR.rr he).mono ?_; rintro e w2 ⟨rfl, h2⟩)
      go_ret
      exact hR.done_err he hr h2
end Go.Proofs.YtkpholfdjgdjnaaGreatDoor
