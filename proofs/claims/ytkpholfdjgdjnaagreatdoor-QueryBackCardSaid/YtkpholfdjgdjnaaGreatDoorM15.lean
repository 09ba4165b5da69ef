/- Texts of the claim, joined: X0 X1 X2. -/
import Derived.Test.YtkpholfdjgdjnaaGreatDoorM14
import Derived.StillTailTactics
import Derived.Shelf.SlSortCmp.Insertion1
namespace Go.Proofs.YtkpholfdjgdjnaaGreatDoor
open Go Go.RowKit Go.Proofs Go.Shelf Go.Sort
def cellV (x : Option Int) : List Value := [.bool x.isSome, .int .i64 (x.getD 0)]
def cmpI (a b : Int) : Int := if a < b then -1 else if b < a then 1 else 0
def aheadI (x y : Option Int) (sign : Int) : Int :=
  match x, y with
  | some a, some b => sign * cmpI a b
  | some _, none => -1
  | none, some _ => 1
  | none, none => 0
theorem Blk.two {w : World} {b : Nat} {v0 v1 : Value} {t : TypeId} (h : Blk w b [v0, v1] t) : w.cell? ⟨b, 0, none⟩ = some v0 ∧ w.cell? ⟨b, 1, none⟩ = some v1 := ⟨h.cell 0, h.cell 1⟩
theorem cell_fin {fn : Func} {R : Ending → World → Prop} {a : Act} {w : World} {h : Nat} {v0 v1 : Value} {k : Nat} (hfn : fn.results = #[.cell k 118]) (B : Blk w h [v0, v1] 118)
    (h2 : a.tmps.getD k undef = .pointer (some ⟨h, 0, none⟩)) (hd : a.defers = []) (hR : R (.returned (.agg #[v0, v1])) w) : bodyPost Tryz.prog fn R .ret a w := by
  obtain ⟨c0, c1⟩ := B.two
  refine bodyPost_ret (v := .agg #[v0, v1]) ?_ hd hR
  rw [Array.getD_eq_getD_getElem?] at h2
  simp [results, hfn, go_sem, h2, c0, c1]
theorem some_calls (w : World) (n : Int) :
    Calls Tryz.prog 155 #[.int .i64 n] w fun e w' => e = .returned (.agg (cellV (some n)).toArray) ∧ Ext [] w w' := by
  go_enter Tryz.func155, Tryz.ntmps155
  go_wp2_with fail
  exact cell_fin (k := 2) rfl (Blk.new w [.bool true, .int .i64 n] 118) rfl rfl ⟨rfl, (Ext.refl [] w).alloc _⟩
theorem isNaN_calls (w : World) (n : Int) :
    Calls Tryz.prog 163 #[.int .i64 n] w fun e w' => e = .returned (.bool false) ∧ w' = w := by
  go_enter Tryz.func163, Tryz.ntmps163
  go_wp2_with fail
  go_ret
  exact ⟨by simp, rfl⟩
theorem compare_calls (w : World) (a b : Int) :
    Calls Tryz.prog 121 #[.int .i64 a, .int .i64 b] w fun e w' => e = .returned (.int .i64 (cmpI a b)) ∧ w' = w := by
  rcases Int.lt_trichotomy a b with h | h | h
  · have : cmpI a b = -1 := by simp [cmpI, h]
    rw [this]
    go_enter Tryz.func121, Tryz.ntmps121
    go_wp2_with (go_at_call 163; refine (isNaN_calls _ _).mono ?_; rintro e w' ⟨rfl, rfl⟩)
    go_ret
    exact ⟨rfl, rfl⟩
  · have : cmpI a b = 0 := by simp [cmpI, h]
    rw [this]
    subst h
    go_enter Tryz.func121, Tryz.ntmps121
    go_wp2_with (go_at_call 163; refine (isNaN_calls _ _).mono ?_; rintro e w' ⟨rfl, rfl⟩)
    go_ret
    exact ⟨rfl, rfl⟩
  · have : cmpI a b = 1 := by simp [cmpI, h]; omega
    rw [this]
    have h2 : ¬ a < b := by omega
    go_enter Tryz.func121, Tryz.ntmps121
    go_wp2_with (go_at_call 163; refine (isNaN_calls _ _).mono ?_; rintro e w' ⟨rfl, rfl⟩)
    go_ret
    exact ⟨rfl, rfl⟩
theorem ahead_calls (w : World) (x y : Option Int) (sign : Int) (hs : sign = 1 ∨ sign = -1) :
    Calls Tryz.prog 59 #[.agg (cellV x).toArray, .agg (cellV y).toArray, .int .i64 sign] w fun e w' => e = .returned (.int .i64 (aheadI x y sign)) ∧ ∃ os, w' = grow w os := by
  unfold cellV
  have hc : ∀ a b : Int, wrap64 (sign * cmpI a b) = sign * cmpI a b := by
    intro a b
    unfold cmpI
    rcases hs with rfl | rfl <;> split <;> (try split) <;> kernel_rfl
  rcases x with _ | a <;> rcases y with _ | b
  all_goals (simp only [Option.isSome_none, Option.isSome_some, Option.getD_none, Option.getD_some])
  all_goals go_enter Tryz.func59, Tryz.ntmps59
  all_goals go_wp2_with (go_at_call 121; refine (compare_calls _ _ _).mono ?_; rintro e w' ⟨rfl, rfl⟩)
  all_goals go_ret
  all_goals (refine ⟨?_, _, (by rw [alloc_eq_grow, alloc_eq_grow, grow_grow])⟩)
  all_goals (first | rfl | skip)
  rw [hc]
  rfl
end Go.Proofs.YtkpholfdjgdjnaaGreatDoor
namespace Go.Proofs.YtkpholfdjgdjnaaGreatDoor
open Go Go.RowKit Go.Proofs Go.Shelf Go.Sort
set_option maxRecDepth 100000 in
theorem sorter_calls (W : World) (b1 b2 gx gy nx ny cx cy at_ : Nat) (x y : Option Int) (sign : Int) (hs : sign = 1 ∨ sign = -1)
    (h1 : W.cell? ⟨b1, 0, none⟩ = some (.int .i64 at_)) (h2 : W.cell? ⟨b2, 0, none⟩ = some (.int .i64 sign)) (hx : at_ < nx) (hy : at_ < ny)
    (x0 : W.cell? ⟨gx, at_ * 2, none⟩ = some (.bool x.isSome)) (x1 : W.cell? ⟨gx, at_ * 2 + 1, none⟩ = some (.int .i64 (x.getD 0)))
    (y0 : W.cell? ⟨gy, at_ * 2, none⟩ = some (.bool y.isSome)) (y1 : W.cell? ⟨gy, at_ * 2 + 1, none⟩ = some (.int .i64 (y.getD 0))) :
    Calls Tryz.prog 58 #[.slice (some ⟨gx, 0, none⟩) nx cx, .slice (some ⟨gy, 0, none⟩) ny cy, .pointer (some ⟨b1, 0, none⟩), .pointer (some ⟨b2, 0, none⟩)] W
      fun e w' => e = .returned (.int .i64 (aheadI x y sign)) ∧ ∃ q os, w' = grow (W.drewN q) os := by
  have HA : Hid (∀ w, Calls Tryz.prog 59 #[.agg (cellV x).toArray, .agg (cellV y).toArray, .int .i64 sign] w fun e w' => e = .returned (.int .i64 (aheadI x y sign)) ∧ ∃ os, w' = grow w os) := fun w => ahead_calls w x y sign hs
  unfold cellV at HA
  have hxi : (at_ : Int) < (nx : Int) := by omega
  have hyi : (at_ : Int) < (ny : Int) := by omega
  have h0i : (0 : Int) ≤ (at_ : Int) := by omega
  generalize aheadI x y sign = r at *
  go_enter Tryz.func58, Tryz.ntmps58
  go_wp2_with fail
  refine wp_region_still_tail 9 (by kernel_rfl) (by kernel_rfl) ?_
  simp only [World.drew_eq]
  simp only [List.take_succ_cons, List.take_zero, List.drop_succ_cons, List.drop_zero]
  repeat still_step
  refine wpStill_nil ?_
  go_wp2_with (go_at_call 59; refine (HA.out _).mono ?_; rintro e w' ⟨rfl, os, rfl⟩)
  go_ret
  exact ⟨rfl, 1, os, rfl⟩
variable {α : Type} [Inhabited α]
theorem ext_sort (enc : α → Value) (w : World) (blk off m : Nat) (dk : Array α) (os : Array Obj) : Ext [blk] w (sortWorld enc w blk off m dk os) := by
  refine ⟨rfl, rfl, rfl, ?_, fun i hi hS => ?_⟩
  · unfold sortWorld
    rw [size_grow, size_putRow]
    show w.heap.size ≤ w.heap.size + _
    omega
  · have hne : ¬ blk = i := fun h => hS (by simp [h])
    show (w.heap.modify blk (onCells (putCells enc off dk)) ++ os)[i]? = w.heap[i]?
    rw [Array.getElem?_append_left (by simpa using hi), Array.getElem?_modify, if_neg hne]
theorem owns_sort (enc : α → Value) (w : World) (blk m n cap base : Nat) (t : TypeId) (dk : Array α) (os : Array Obj) (xs : List Value) (h : w.ownsRow base t 1 (.slice (some ⟨blk, 0, none⟩) n cap) n xs) (hn : dk.size = n) :
    (sortWorld enc w blk 0 m dk os).ownsRow base t 1 (.slice (some ⟨blk, 0, none⟩) n cap) n (dk.toList.map enc) := by
  refine ⟨by simp [hn], ?_⟩
  rcases h.2 with ⟨h0, _⟩ | ⟨g, cap', cur, hv, hb, hgg, h1, h2, h3, h4⟩
  · cases h0
  · simp only [Value.slice.injEq, Option.some.injEq, Addr.mk.injEq, and_true, true_and] at hv
    obtain ⟨rfl, rfl⟩ := hv
    have hlt : blk < w.heap.size := (Array.getElem?_eq_some_iff.1 hgg).1
    refine .inr ⟨blk, cap, putCells enc 0 dk cur, rfl, hb, ?_, h1, h2, by simpa [putCells] using h3, ?_⟩
    · show (w.heap.modify blk (onCells (putCells enc 0 dk)) ++ os)[blk]? = _
      rw [Array.getElem?_append_left (by simpa using hlt), Array.getElem?_modify, if_pos rfl, hgg]
      rfl
    · subst hn
      apply List.ext_getElem?
      intro k
      simp only [Nat.mul_one, List.getElem?_take, List.getElem?_map, Array.getElem?_toList, putCells, Array.getElem?_mapIdx]
      by_cases hk : k < dk.size
      · have hk2 : k < cur.size := by omega
        rw [if_pos hk, Array.getElem?_eq_getElem hk2, Array.getElem?_eq_getElem hk]
        simp [hk]
      · rw [if_neg hk, Array.getElem?_eq_none (by omega)]
        rfl
structure Ln (w : World) (base n : Nat) where
  v : Value
  l : List (Option Int)
  len : l.length = n
  own : w.ownsRow base 118 2 v n (l.flatMap cellV)
theorem Ln.form {w : World} {base n : Nat} (x : Ln w base n) (hn : 0 < n) : ∃ g cap, x.v = .slice (some ⟨g, 0, none⟩) n cap ∧ g < w.heap.size := by
  obtain ⟨g, cap, h, _, h2⟩ := x.own.form hn
  exact ⟨g, cap, h, h2⟩
theorem cellV_at (l : List (Option Int)) : ∀ (k : Nat), k < l.length → (l.flatMap cellV)[k * 2]? = some (.bool (l[k]?.getD none).isSome) ∧ (l.flatMap cellV)[k * 2 + 1]? = some (.int .i64 ((l[k]?.getD none).getD 0)) := by
  induction l with
  | nil => intro k hk; simp at hk
  | cons a l ih =>
    intro k hk
    cases k with
    | zero => simp [cellV]
    | succ k =>
      have h1 := ih k (by simpa using hk)
      have e1 : (k + 1) * 2 = k * 2 + 2 := by omega
      rw [e1]
      simp only [List.flatMap_cons, cellV, List.cons_append, List.nil_append]
      exact h1
theorem Ln.cells {w W : World} {base n : Nat} (x : Ln w base n) {g cap : Nat} (hv : x.v = .slice (some ⟨g, 0, none⟩) n cap) {S : List Nat} (e : Ext S w W) (hS : g ∉ S) (k : Nat) (hk : k < n) :
    W.cell? ⟨g, k * 2, none⟩ = some (.bool (x.l[k]?.getD none).isSome) ∧ W.cell? ⟨g, k * 2 + 1, none⟩ = some (.int .i64 ((x.l[k]?.getD none).getD 0)) := by
  obtain ⟨h0, h1⟩ := cellV_at x.l k (by rw [x.len]; exact hk)
  have c := fun j u => x.own.cells (g := g) (by rw [hv]; rfl) j u
  have c0 := c _ _ h0
  have c1 := c _ _ h1
  rw [add_at, Nat.zero_add] at c0 c1
  exact ⟨e.keeps c0 hS, e.keeps c1 hS⟩
def cfL (at_ : Nat) (sign : Int) (x y : List (Option Int)) : Int := aheadI (x[at_]?.getD none) (y[at_]?.getD none) sign
theorem cmp_lays (w : World) (blk base n at_ b1 b2 size : Nat) (sign : Int) (hs : sign = 1 ∨ sign = -1) (hat : at_ < n)
    (h1 : w.cell? ⟨b1, 0, none⟩ = some (.int .i64 at_)) (h2 : w.cell? ⟨b2, 0, none⟩ = some (.int .i64 sign)) (hb1 : b1 ≠ blk) (hb2 : b2 ≠ blk)
    (hbk : ∀ (x : Ln w base n) g, x.v.ownBlock = some g → g ≠ blk) [Inhabited (Ln w base n)] :
    CmpLays1 Tryz.prog 58 #[.pointer (some ⟨b1, 0, none⟩), .pointer (some ⟨b2, 0, none⟩)] (Ln.v (w := w) (base := base) (n := n)) (fun x y => cfL at_ sign x.l y.l) blk 0 size w := by
  intro m os dk hdk x y
  have E := ext_sort (Ln.v (w := w) (base := base) (n := n)) w blk 0 m dk os
  obtain ⟨gx, cx, hx, _⟩ := x.form (by omega)
  obtain ⟨gy, cy, hy, _⟩ := y.form (by omega)
  have ex := x.cells hx E (by have := hbk x gx (by rw [hx]; rfl); simpa using this) at_ hat
  have ey := y.cells hy E (by have := hbk y gy (by rw [hy]; rfl); simpa using this) at_ hat
  have := sorter_calls _ b1 b2 gx gy n n cx cy at_ (x.l[at_]?.getD none) (y.l[at_]?.getD none) sign hs (E.keeps h1 (by simpa using hb1)) (E.keeps h2 (by simpa using hb2)) hat hat ex.1 ex.2 ey.1 ey.2
  rw [hx, hy]
  exact this
end Go.Proofs.YtkpholfdjgdjnaaGreatDoor
namespace Go.Proofs.YtkpholfdjgdjnaaGreatDoor
open Go Go.RowKit Go.Proofs Go.Shelf Go.Sort
theorem holds_owns {α : Type} [Inhabited α] (enc : α → Value) {w : World} {blk cap base : Nat} {t : TypeId} {d : Array α} (h : w.ownsRow base t 1 (.slice (some ⟨blk, 0, none⟩) d.size cap) d.size (d.toList.map enc)) : Holds enc w blk 0 d := by
  intro j hj
  have hc := h.cells (g := blk) rfl j (enc d[j]) (by simp [hj])
  rw [add_at, Nat.zero_add] at hc
  refine ⟨by rw [Nat.zero_add, getElem!_pos d j hj]; exact hc, ?_⟩
  rcases h.2 with ⟨h0, _⟩ | ⟨g, cap', cur, hv, hb, hgg, _⟩
  · cases h0
  · simp only [Value.slice.injEq, Option.some.injEq, Addr.mk.injEq, and_true, true_and] at hv
    obtain ⟨rfl, rfl⟩ := hv
    simp [World.frozen?, hgg]
section
variable {α β : Type} [Inhabited α] [Inhabited β] (lt : α → α → Bool)
theorem insInner_size (a : Nat) : ∀ (j : Nat) (d : Array α), (insInner lt a j d).size = d.size
  | 0, d => rfl
  | j + 1, d => by
    unfold insInner
    split
    · rw [insInner_size a j, size_swp]
    · rfl
theorem insOuter_size (a b : Nat) : ∀ (m i : Nat) (d : Array α), b - i ≤ m → (insOuter lt a b i d).size = d.size
  | 0, i, d, h => by unfold insOuter; rw [if_neg (by omega)]
  | m + 1, i, d, h => by
    unfold insOuter
    split
    · rw [insOuter_size a b m (i + 1) _ (by omega), insInner_size]
    · rfl
theorem insertionSort_size (d : Array α) (a b : Nat) : (Sort.insertionSort lt d a b).size = d.size := insOuter_size lt a b _ _ d (Nat.le_refl _)
variable (f : α → β) (lt' : β → β → Bool)
theorem map_get! (d : Array α) (i : Nat) (hi : i < d.size) : (d.map f)[i]! = f d[i]! := by
  rw [getElem!_pos d i hi, getElem!_pos (d.map f) i (by simpa using hi)]
  simp
theorem swp_map (d : Array α) (i j : Nat) (hi : i < d.size) (hj : j < d.size) : (swp d i j).map f = swp (d.map f) i j := by
  unfold swp
  rw [map_get! f d i hi, map_get! f d j hj]
  simp [Array.map_setIfInBounds]
theorem insInner_map (hlt : ∀ x y, lt x y = lt' (f x) (f y)) (a : Nat) : ∀ (j : Nat) (d : Array α), j < d.size → (insInner lt a j d).map f = insInner lt' a j (d.map f)
  | 0, d, _ => rfl
  | j + 1, d, h => by
    unfold insInner
    rw [map_get! f d _ h, map_get! f d j (by omega), hlt]
    split
    · rw [insInner_map hlt a j _ (by rw [size_swp]; omega), swp_map f d _ _ h (by omega)]
    · rfl
theorem insOuter_map (hlt : ∀ x y, lt x y = lt' (f x) (f y)) (a b : Nat) : ∀ (m i : Nat) (d : Array α), b - i ≤ m → b ≤ d.size → (insOuter lt a b i d).map f = insOuter lt' a b i (d.map f)
  | 0, i, d, h, _ => by unfold insOuter; rw [if_neg (by omega), if_neg (by omega)]
  | m + 1, i, d, h, hb => by
    rw [insOuter, insOuter.eq_def lt']
    split
    · rw [insOuter_map hlt a b m (i + 1) _ (by omega) (by rw [insInner_size]; exact hb), insInner_map lt f lt' hlt a i d (by omega)]
    · rfl
theorem insertionSort_map (hlt : ∀ x y, lt x y = lt' (f x) (f y)) (d : Array α) (a b : Nat) (hb : b ≤ d.size) : (Sort.insertionSort lt d a b).map f = Sort.insertionSort lt' (d.map f) a b :=
  insOuter_map lt f lt' hlt a b _ _ d (Nat.le_refl _) hb
end
theorem insert_calls (w : World) (base n blk cap at_ b1 b2 : Nat) (sign : Int) (d : Array (Ln w base n)) [Inhabited (Ln w base n)] (hs : sign = 1 ∨ sign = -1) (hat : at_ < n) (hd : d.size ≤ 16)
    (h : w.ownsRow base 60 1 (.slice (some ⟨blk, 0, none⟩) d.size cap) d.size (d.toList.map Ln.v))
    (h1 : w.cell? ⟨b1, 0, none⟩ = some (.int .i64 at_)) (h2 : w.cell? ⟨b2, 0, none⟩ = some (.int .i64 sign)) (hb1 : b1 ≠ blk) (hb2 : b2 ≠ blk) :
    Calls Tryz.prog 161 #[.slice (some ⟨blk, 0, none⟩) d.size cap, .int .i64 0, .int .i64 d.size, .func (.func 58) #[] #[.pointer (some ⟨b1, 0, none⟩), .pointer (some ⟨b2, 0, none⟩)]] w
      fun e w' => e = .returned (.tuple #[]) ∧ Ext [blk] w w' ∧ w'.ownsRow base 60 1 (.slice (some ⟨blk, 0, none⟩) d.size cap) d.size ((Sort.insertionSort (ltOf (fun x y => cfL at_ sign x.l y.l)) d 0 d.size).toList.map Ln.v) := by
  have hblk : blk < w.heap.size := (h.lt blk rfl).2
  have eg : ∀ args w, (callFunc 58 args).run Tryz.prog w = .ok (.enter 58 args) w := enters_of Tryz.func58 (by kernel_rfl) rfl
  have hbk : ∀ (x : Ln w base n) g, x.v.ownBlock = some g → g ≠ blk := by
    intro x g hg he
    rcases owns_far x.own h (by decide) with h3 | h3
    · rw [h3] at hg
      cases hg
    · rw [hg, he] at h3
      exact h3 rfl
  have hO : OneCell (Ln.v (w := w) (base := base) (n := n)) := by
    intro x
    obtain ⟨A, cap, hv⟩ := ownsRow_shape x.own
    rw [hv]
    rfl
  have hH := holds_owns (Ln.v (w := w) (base := base) (n := n)) h
  have hcon := Any.insertionSortCmpFunc_s Tryz.laysSort (Ln.v (w := w) (base := base) (n := n)) (fun x y => cfL at_ sign x.l y.l) 58 #[.pointer (some ⟨b1, 0, none⟩), .pointer (some ⟨b2, 0, none⟩)] blk 0 cap 0 d.size d d w w eg
    (cmp_lays w blk base n at_ b1 b2 d.size sign hs hat h1 h2 hb1 hb2 hbk) ⟨hO, hH, hblk⟩ rfl (SW.start hH) (by omega) (by omega) (by omega)
  refine hcon.mono ?_
  rintro e w' ⟨rfl, m, os, rfl⟩
  refine ⟨rfl, ext_sort _ w blk 0 m _ os, ?_⟩
  exact owns_sort _ w blk m d.size cap base 60 _ os _ h (insertionSort_size _ d 0 d.size)
abbrev sorted (w : World) (base n at_ : Nat) (sign : Int) (d : Array (Ln w base n)) [Inhabited (Ln w base n)] : Array (Ln w base n) := Sort.insertionSort (ltOf (fun x y => cfL at_ sign x.l y.l)) d 0 d.size
theorem stable_calls (w : World) (base n blk cap at_ b1 b2 : Nat) (sign : Int) (d : Array (Ln w base n)) [Inhabited (Ln w base n)] (hs : sign = 1 ∨ sign = -1) (hat : at_ < n) (hd : d.size ≤ 16)
    (h : w.ownsRow base 60 1 (.slice (some ⟨blk, 0, none⟩) d.size cap) d.size (d.toList.map Ln.v))
    (h1 : w.cell? ⟨b1, 0, none⟩ = some (.int .i64 at_)) (h2 : w.cell? ⟨b2, 0, none⟩ = some (.int .i64 sign)) (hb1 : b1 ≠ blk) (hb2 : b2 ≠ blk) :
    Calls Tryz.prog 120 #[.slice (some ⟨blk, 0, none⟩) d.size cap, .int .i64 d.size, .func (.func 58) #[] #[.pointer (some ⟨b1, 0, none⟩), .pointer (some ⟨b2, 0, none⟩)]] w
      fun e w' => e = .returned (.tuple #[]) ∧ Ext [blk] w w' ∧ w'.ownsRow base 60 1 (.slice (some ⟨blk, 0, none⟩) d.size cap) d.size ((sorted w base n at_ sign d).toList.map Ln.v) := by
  have hcon := insert_calls w base n blk cap at_ b1 b2 sign d hs hat hd h h1 h2 hb1 hb2
  have HC := Lib.hid hcon
  have hdi : (d.size : Int) ≤ 16 := by omega
  have hd0 : (0 : Int) ≤ (d.size : Int) := by omega
  clear hcon h h1 h2
  go_enter Tryz.func120, Tryz.ntmps120
  go_wp2_with fail
  refine wp_loop_rounds 1 ?_
  rw [rounds_succ]
  go_wp2_with (go_at_call 161; refine HC.out.mono ?_; rintro e w' ⟨rfl, E, O⟩)
  refine wp_loop_rounds 1 ?_
  rw [rounds_succ]
  go_wp2_with fail
  go_end0
  exact ⟨rfl, E, O⟩
theorem sort_calls (w : World) (base n blk cap at_ b1 b2 : Nat) (sign : Int) (d : Array (Ln w base n)) [Inhabited (Ln w base n)] (hs : sign = 1 ∨ sign = -1) (hat : at_ < n) (hd : d.size ≤ 16)
    (h : w.ownsRow base 60 1 (.slice (some ⟨blk, 0, none⟩) d.size cap) d.size (d.toList.map Ln.v))
    (h1 : w.cell? ⟨b1, 0, none⟩ = some (.int .i64 at_)) (h2 : w.cell? ⟨b2, 0, none⟩ = some (.int .i64 sign)) (hb1 : b1 ≠ blk) (hb2 : b2 ≠ blk) :
    Calls Tryz.prog 57 #[.slice (some ⟨blk, 0, none⟩) d.size cap, .func (.func 58) #[] #[.pointer (some ⟨b1, 0, none⟩), .pointer (some ⟨b2, 0, none⟩)]] w
      fun e w' => e = .returned (.tuple #[]) ∧ Ext [blk] w w' ∧ w'.ownsRow base 60 1 (.slice (some ⟨blk, 0, none⟩) d.size cap) d.size ((sorted w base n at_ sign d).toList.map Ln.v) := by
  have HC := Lib.hid (stable_calls w base n blk cap at_ b1 b2 sign d hs hat hd h h1 h2 hb1 hb2)
  clear h h1 h2
  go_enter Tryz.func57, Tryz.ntmps57
  go_wp2_with (go_at_call 120; refine HC.out.mono ?_; rintro e w' ⟨rfl, E, O⟩)
  go_end0
  exact ⟨rfl, E, O⟩
theorem sort_nil (w : World) (f : Value) :
    Calls Tryz.prog 57 #[.slice none 0 0, f] w fun e w' => e = .returned (.tuple #[]) ∧ w' = w := by
  have h161 : Calls Tryz.prog 161 #[.slice none 0 0, .int .i64 0, .int .i64 0, f] w fun e w' => e = .returned (.tuple #[]) ∧ w' = w := by
    go_enter Tryz.func161, Tryz.ntmps161
    go_wp2_with fail
    refine wp_loop_rounds 1 ?_
    rw [rounds_succ]
    go_wp2_with fail
    go_end0
    exact ⟨rfl, rfl⟩
  have h120 : Calls Tryz.prog 120 #[.slice none 0 0, .int .i64 0, f] w fun e w' => e = .returned (.tuple #[]) ∧ w' = w := by
    go_enter Tryz.func120, Tryz.ntmps120
    go_wp2_with fail
    refine wp_loop_rounds 1 ?_
    rw [rounds_succ]
    go_wp2_with (go_at_call 161; refine h161.mono ?_; rintro e w' ⟨rfl, rfl⟩)
    refine wp_loop_rounds 1 ?_
    rw [rounds_succ]
    go_wp2_with fail
    go_end0
    exact ⟨rfl, rfl⟩
  go_enter Tryz.func57, Tryz.ntmps57
  go_wp2_with (go_at_call 120; refine h120.mono ?_; rintro e w' ⟨rfl, rfl⟩)
  go_end0
  exact ⟨rfl, rfl⟩
end Go.Proofs.YtkpholfdjgdjnaaGreatDoor
