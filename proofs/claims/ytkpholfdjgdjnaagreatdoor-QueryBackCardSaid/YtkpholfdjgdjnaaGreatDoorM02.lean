/- Texts of the claim, joined: R0 N R1 R2 R3. -/
import Derived.Test.YtkpholfdjgdjnaaGreatDoorM01
import Derived.StillTailTactics
import Derived.Deep.RegionHeld3
namespace Go.Proofs.YtkpholfdjgdjnaaGreatDoor
open Go Go.RowKit Go.Proofs
theorem wordsV_get (T : List Tok) (k j : Nat) (t : Tok) (ht : T[k]? = some t) (hj : j < 3) : (wordsV T)[k * 3 + j]? = (wordV t)[j]? := by
  induction T generalizing k with
  | nil => simp at ht
  | cons u T ih =>
    cases k with
    | zero =>
      simp at ht
      subst ht
      simp only [wordsV, List.flatMap_cons]
      rw [List.getElem?_append_left (by simp [wordV]; omega)]
      simp
    | succ k =>
      simp at ht
      have h := ih k ht
      simp only [wordsV, List.flatMap_cons] at *
      rw [List.getElem?_append_right (by simp [wordV]; omega)]
      rw [show (k + 1) * 3 + j - (wordV u).length = k * 3 + j by simp [wordV]; omega]
      exact h
structure RR (w : World) (r : Nat) (A : Option Addr) (cap : Nat) (T : List Tok) (size k err at_ : Nat) : Prop where
  blk : Blk w r [.slice A T.length cap, .int .i64 k, .int .i64 size, .int .i64 err, .int .i64 at_] 81
  row : T ≠ [] → ∃ b, A = some ⟨b, 0, none⟩ ∧ b ≠ r ∧ ∀ j, j < (wordsV T).length → w.cell? ⟨b, j, none⟩ = some ((wordsV T)[j]?.getD undef)
  le : k ≤ T.length
  small : T.length ≤ 4096 ∧ size ≤ 4096
theorem RR.ext {S : List Nat} {w w' : World} {r : Nat} {A : Option Addr} {cap : Nat} {T : List Tok} {size k err at_ : Nat} (h : RR w r A cap T size k err at_) (e : Ext S w w') (hr : r ∉ S)
    (hS : T ≠ [] → ∀ b, A = some ⟨b, 0, none⟩ → b ∉ S) : RR w' r A cap T size k err at_ :=
  ⟨h.blk.ext e hr, fun hne => by
    obtain ⟨b, rfl, hb, hc⟩ := h.row hne
    exact ⟨b, rfl, hb, fun j hj => e.keeps (hc j hj) (hS hne b rfl)⟩, h.le, h.small⟩
theorem RR.lt2 {w : World} {r : Nat} {A : Option Addr} {cap : Nat} {T : List Tok} {size k err at_ : Nat} (h : RR w r A cap T size k err at_) (hne : T ≠ []) (b : Nat) (hA : A = some ⟨b, 0, none⟩) : b < w.heap.size := by
  obtain ⟨b', hA', hb, hc⟩ := h.row hne
  rw [hA] at hA'
  obtain rfl : b = b' := by injection hA' with h1; injection h1
  have h0 := hc 0 (by rw [wordsV_length]; have := List.length_pos_iff.2 hne; omega)
  exact World.block_lt_of_cell? w _ h0
section
variable {w : World} {r : Nat} {A : Option Addr} {cap : Nat} {T : List Tok} {size k err at_ : Nat} (h : RR w r A cap T size k err at_)
include h
theorem RR.c0 : w.cell? ⟨r, 0, none⟩ = some (.slice A T.length cap) := by rw [h.blk.cell 0]; rfl
theorem RR.c1 : w.cell? ⟨r, 1, none⟩ = some (.int .i64 k) := by rw [h.blk.cell 1]; rfl
theorem RR.c2 : w.cell? ⟨r, 2, none⟩ = some (.int .i64 size) := by rw [h.blk.cell 2]; rfl
theorem RR.c3 : w.cell? ⟨r, 3, none⟩ = some (.int .i64 err) := by rw [h.blk.cell 3]; rfl
theorem RR.c4 : w.cell? ⟨r, 4, none⟩ = some (.int .i64 at_) := by rw [h.blk.cell 4]; rfl
end
theorem RR.tok {w : World} {r : Nat} {A : Option Addr} {cap : Nat} {T : List Tok} {size k err at_ : Nat} (h : RR w r A cap T size k err at_) (t : Tok) (ht : T[k]? = some t) :
    ∃ b, A = some ⟨b, 0, none⟩ ∧ b ≠ r ∧ w.cell? ⟨b, k * 3, none⟩ = some (.string t.1) ∧ w.cell? ⟨b, k * 3 + 1, none⟩ = some (.int .i64 t.2) ∧ w.cell? ⟨b, k * 3 + 2, none⟩ = some (.bool (signT t.1)) := by
  obtain ⟨b, hA, hb, hc⟩ := h.row (by rintro rfl; simp at ht)
  have hk : k < T.length := by
    rcases Nat.lt_or_ge k T.length with h1 | h1
    · exact h1
    · simp [List.getElem?_eq_none h1] at ht
  refine ⟨b, hA, hb, ?_, ?_, ?_⟩
  · rw [hc _ (by rw [wordsV_length]; omega), ← Nat.add_zero (k * 3), wordsV_get T k 0 t ht (by omega)]; rfl
  · rw [hc _ (by rw [wordsV_length]; omega), wordsV_get T k 1 t ht (by omega)]; rfl
  · rw [hc _ (by rw [wordsV_length]; omega), wordsV_get T k 2 t ht (by omega)]; rfl
theorem RR.upd {w w' : World} {r : Nat} {A : Option Addr} {cap : Nat} {T : List Tok} {size k err at_ k' err' at' : Nat} (h : RR w r A cap T size k err at_) (e : Ext [r] w w')
    (hb : Blk w' r [.slice A T.length cap, .int .i64 k', .int .i64 size, .int .i64 err', .int .i64 at'] 81) (hk : k' ≤ T.length) : RR w' r A cap T size k' err' at' :=
  ⟨hb, fun hne => by
    obtain ⟨b, rfl, hb, hc⟩ := h.row hne
    exact ⟨b, rfl, hb, fun j hj => e.keeps (hc j hj) (by simpa using hb)⟩, hk, h.small⟩
theorem Blk.drewN {w : World} {b : Nat} {c : List Value} {t : TypeId} (h : Blk w b c t) (n : Nat) : Blk (w.drewN n) b c t := h
theorem RR.adv {w : World} {r : Nat} {A : Option Addr} {cap : Nat} {T : List Tok} {size k err at_ : Nat} (h : RR w r A cap T size k err at_) (hk : k < T.length) :
    Ext [r] w (w.setCell ⟨r, 1, none⟩ (.int .i64 ((k : Int) + 1))) ∧ RR (w.setCell ⟨r, 1, none⟩ (.int .i64 ((k : Int) + 1))) r A cap T size (k + 1) err at_ :=
  have E : Ext [r] w (w.setCell ⟨r, 1, none⟩ (.int .i64 ((k : Int) + 1))) := (Ext.refl [r] w).setCell _ (by simp) _
  ⟨E, h.upd E (h.blk.set 1 (.int .i64 ((k : Int) + 1))) (by omega)⟩
theorem getElem?_lt {α : Type} {T : List α} {k : Nat} {t : α} (ht : T[k]? = some t) : k < T.length := by
  rcases Nat.lt_or_ge k T.length with h1 | h1
  · exact h1
  · simp [List.getElem?_eq_none h1] at ht
theorem fail_old (w : World) (r : Nat) (A : Option Addr) (cap : Nat) (T : List Tok) (size k err at_ : Nat) (e : Int) (h : RR w r A cap T size k err at_) (he : err ≠ 0) :
    Calls Tryz.prog 35 #[.pointer (some ⟨r, 0, none⟩), .int .i64 e] w fun x w' => x = .returned (.tuple #[]) ∧ w = w' := by
  have c3 := h.blk.cell 3
  simp at c3
  have hne : ((err : Int) != 0) = true := by simp; omega
  clear h he
  go_enter Tryz.func35, Tryz.ntmps35
  go_wp2
  refine bodyPost_ret (results_none rfl _ _ _) rfl ?_
  exact ⟨rfl, rfl⟩
set_option maxRecDepth 100000 in
theorem fail_word (w : World) (r : Nat) (A : Option Addr) (cap : Nat) (T : List Tok) (size k at_ : Nat) (e : Nat) (t : Tok) (h : RR w r A cap T size k 0 at_) (ht : T[k]? = some t) :
    Calls Tryz.prog 35 #[.pointer (some ⟨r, 0, none⟩), .int .i64 e] w fun x w' => x = .returned (.tuple #[]) ∧ Ext [r] w w' ∧ RR w' r A cap T size k e t.2 := by
  obtain ⟨b, rfl, hb, t0, t1, t2⟩ := h.tok t ht
  have c0 := h.blk.cell 0
  have c1 := h.blk.cell 1
  have c2 := h.blk.cell 2
  have c3 := h.blk.cell 3
  have c4 := h.blk.cell 4
  have f3 := h.blk.frozen 3
  have f4 := h.blk.frozen 4
  simp at c0 c1 c2 c3 c4
  have hk := getElem?_lt ht
  have hsm := h.small
  have H := Lib.hid h
  clear ht h
  go_enter Tryz.func35, Tryz.ntmps35
  go_wp2
  go_quiet (fail)
  go_wp2
  refine wp_region_still_tail 14 (by kernel_rfl) (by kernel_rfl) ?_
  simp only [World.drew_eq]
  simp only [List.take_succ_cons, List.take_zero, List.drop_succ_cons, List.drop_zero]
  repeat still_step
  refine wpStill_nil ?_
  go_wp2
  go_end0
  have E : Ext [r] w (((((w.setCell ⟨r, 3, none⟩ (.int .i64 e)).setCell ⟨r, 4, none⟩ (.int .i64 size)).drewN nq).drew).setCell ⟨r, 4, none⟩ (.int .i64 t.2)) :=
    ((((((Ext.refl [r] w).setCell _ (by simp) _).setCell _ (by simp) _).drewN _).drew).setCell _ (by simp) _)
  have B := (((H.out.blk.set 3 (.int .i64 e)).set 4 (.int .i64 size)).drewN (nq + 1)).set 4 (.int .i64 t.2)
  exact ⟨rfl, E, H.out.upd E B (by omega)⟩
theorem fail_end (w : World) (r : Nat) (A : Option Addr) (cap : Nat) (T : List Tok) (size k at_ : Nat) (e : Nat) (h : RR w r A cap T size k 0 at_) (hk : k = T.length) :
    Calls Tryz.prog 35 #[.pointer (some ⟨r, 0, none⟩), .int .i64 e] w fun x w' => x = .returned (.tuple #[]) ∧ Ext [r] w w' ∧ RR w' r A cap T size k e size := by
  have c0 := h.blk.cell 0
  have c1 := h.blk.cell 1
  have c2 := h.blk.cell 2
  have c3 := h.blk.cell 3
  have c4 := h.blk.cell 4
  have f3 := h.blk.frozen 3
  have f4 := h.blk.frozen 4
  simp at c0 c1 c2 c3 c4
  have hsm := h.small
  have H := Lib.hid h
  clear h
  subst hk
  go_enter Tryz.func35, Tryz.ntmps35
  go_wp2
  go_quiet (fail)
  go_wp2
  go_end0
  have E : Ext [r] w (((w.setCell ⟨r, 3, none⟩ (.int .i64 e)).setCell ⟨r, 4, none⟩ (.int .i64 size)).drewN nq) := (((Ext.refl [r] w).setCell _ (by simp) _).setCell _ (by simp) _).drewN _
  have B := ((H.out.blk.set 3 (.int .i64 e)).set 4 (.int .i64 size)).drewN nq
  exact ⟨rfl, E, H.out.upd E B (by omega)⟩
end Go.Proofs.YtkpholfdjgdjnaaGreatDoor
namespace Go.Proofs.YtkpholfdjgdjnaaGreatDoor
open Go Go.RowKit Go.Proofs
theorem digits_step (s : ByteArray) (i : Nat) (x : Int) (h : i < s.size) (h1 : 48 ≤ bt s i) (h2 : bt s i ≤ 57) : digitsFrom s i x = digitsFrom s (i + 1) (x * 10 + (bt s i - 48)) := by
  rw [digitsFrom, dif_pos h, if_neg (by omega)]
theorem digits_bad (s : ByteArray) (i : Nat) (x : Int) (h : i < s.size) (h1 : bt s i < 48 ∨ 57 < bt s i) : digitsFrom s i x = none := by
  rw [digitsFrom, dif_pos h, if_pos h1]
theorem digits_end (s : ByteArray) (i : Nat) (x : Int) (h : ¬ i < s.size) : digitsFrom s i x = some x := by
  rw [digitsFrom, dif_neg h]
theorem bt_tail (s : ByteArray) (j : Nat) : bt (s.extract 1 s.size) j = bt s (j + 1) := by
  by_cases h : j + 1 < s.size
  · rw [bt_extract s 1 s.size j (by omega) (by omega), Nat.add_comm]
  · rw [bt_out _ _ (by rw [ByteArray.size_extract]; omega), bt_out _ _ (by omega)]
theorem digits_tail (s : ByteArray) (n i : Nat) (x : Int) (hn : s.size - i = n) : digitsFrom (s.extract 1 s.size) i x = digitsFrom s (i + 1) x := by
  induction n generalizing i x with
  | zero => rw [digits_end _ _ _ (by rw [ByteArray.size_extract]; omega), digits_end _ _ _ (by omega)]
  | succ n ih =>
    by_cases h : i + 1 < s.size
    · have h' : i < (s.extract 1 s.size).size := by rw [ByteArray.size_extract]; omega
      by_cases hd : bt s (i + 1) < 48 ∨ 57 < bt s (i + 1)
      · rw [digits_bad _ _ _ h' (by rw [bt_tail]; exact hd), digits_bad _ _ _ h hd]
      · rw [digits_step _ _ _ h' (by rw [bt_tail]; omega) (by rw [bt_tail]; omega), digits_step _ _ _ h (by omega) (by omega), bt_tail, ih _ _ (by omega)]
    · rw [digits_end _ _ _ (by rw [ByteArray.size_extract]; omega), digits_end _ _ _ h]
def numJ (s : ByteArray) : Int :=
  if bt s 0 = 45 then (if s.size ≤ 1 ∨ 20 < s.size ∨ bt s 1 = 48 then 0 else ((digitsFrom s 1 0).map fun x => wrap64 (-wrap64 x)).getD 0)
  else (if s.size = 0 ∨ 19 < s.size ∨ (bt s 0 = 48 ∧ 1 < s.size) then 0 else ((digitsFrom s 0 0).map wrap64).getD 0)
def numV (s : ByteArray) : Int := (numOf s).getD (numJ s)
def NumPost (s : ByteArray) (w : World) (e : Ending) (w' : World) : Prop :=
  e = .returned (.tuple #[.int .i64 (numV s), .bool (numOf s).isSome]) ∧ w = w'
theorem pow_bound (y k : Nat) (h : y < 10 ^ k) (hk : k ≤ 18) : y ≤ 999999999999999999 := by
  have h2 : 10 ^ k ≤ 10 ^ 18 := Nat.pow_le_pow_right (by omega) hk
  have h3 : (10 : Nat) ^ 18 = 1000000000000000000 := by decide
  rw [h3] at h2
  omega
theorem pow_step (y k : Nat) (c : Int) (h : y < 10 ^ k) (h1 : 48 ≤ c) (h2 : c ≤ 57) : y * 10 + (c - 48).toNat < 10 ^ (k + 1) := by
  rw [Nat.pow_succ]
  omega
theorem lim_cases (y : Nat) : ((y : Int) < 9223372036854775808 ∧ decide ((y : Int) < 9223372036854775808) = true) ∨ (¬ (y : Int) < 9223372036854775808 ∧ decide ((y : Int) < 9223372036854775808) = false) := by
  by_cases h : (y : Int) < 9223372036854775808
  · exact .inl ⟨h, decide_eq_true h⟩
  · exact .inr ⟨h, decide_eq_false h⟩
theorem capPos_yes (y : Nat) (h : (y : Int) < 9223372036854775808) : capPos y = some (y : Int) := if_pos h
theorem capPos_no (y : Nat) (h : 9223372036854775808 ≤ (y : Int)) : capPos y = none := if_neg (show ¬ (y : Int) < 9223372036854775808 by omega)
theorem capNeg_yes (y : Nat) (h : (y : Int) ≤ 9223372036854775808) : capNeg y = some (-(y : Int)) := if_pos h
theorem capNeg_no (y : Nat) (h : 9223372036854775808 < (y : Int)) : capNeg y = none := if_neg (show ¬ (y : Int) ≤ 9223372036854775808 by omega)
theorem lim_cases2 (y : Nat) : ((y : Int) < 9223372036854775808 ∧ decide ((y : Int) ≤ 9223372036854775808) = true) ∨ y = 9223372036854775808 ∨ (9223372036854775808 < (y : Int) ∧ decide ((y : Int) ≤ 9223372036854775808) = false) := by
  by_cases h : (y : Int) < 9223372036854775808
  · exact .inl ⟨h, decide_eq_true (by omega)⟩
  · by_cases h2 : y = 9223372036854775808
    · exact .inr (.inl h2)
    · exact .inr (.inr ⟨by omega, decide_eq_false (by omega)⟩)
theorem num_yes (s : ByteArray) (w : World) (n : Int) (h : numOf s = some n) : NumPost s w (.returned (.tuple #[.int .i64 n, .bool true])) w := by
  unfold NumPost numV
  rw [h]
  exact ⟨rfl, rfl⟩
theorem num_no (s : ByteArray) (w : World) (v : Int) (h : numOf s = none) (hj : numJ s = v) : NumPost s w (.returned (.tuple #[.int .i64 v, .bool false])) w := by
  unfold NumPost numV
  rw [h, ← hj]
  exact ⟨rfl, rfl⟩
theorem numJ_none (s : ByteArray) (i : Nat) (f : Int → Int) (HJ : numJ s = ((digitsFrom s i 0).map f).getD 0) (hd : digitsFrom s i 0 = none) : numJ s = 0 := by
  rw [HJ, hd]
  rfl
theorem numJ_some (s : ByteArray) (i : Nat) (f : Int → Int) (y : Int) (HJ : numJ s = ((digitsFrom s i 0).map f).getD 0) (hd : digitsFrom s i 0 = some y) : numJ s = f y := by
  rw [HJ, hd]
  rfl
theorem numJ_neg (s : ByteArray) (y : Int) (HJ : numJ s = ((digitsFrom s 1 0).map fun x => wrap64 (-wrap64 x)).getD 0) (hd : digitsFrom s 1 0 = some y) : numJ s = wrap64 (-wrap64 y) :=
  numJ_some s 1 (fun x => wrap64 (-wrap64 x)) y HJ hd
theorem num_pos_early (s : ByteArray) (hm : bt s 0 ≠ 45) (hb : s.size = 0 ∨ 19 < s.size ∨ (bt s 0 = 48 ∧ 1 < s.size)) : numOf s = none ∧ numJ s = 0 := by
  unfold numOf numJ
  rw [if_neg hm, if_neg hm, if_pos hb, if_pos hb]
  exact ⟨rfl, rfl⟩
theorem num_neg_early (s : ByteArray) (hm : bt s 0 = 45) (hb : s.size ≤ 1 ∨ 20 < s.size ∨ bt s 1 = 48) : numOf s = none ∧ numJ s = 0 := by
  unfold numOf numJ
  rw [if_pos hm, if_pos hm, if_pos hb, if_pos hb]
  exact ⟨rfl, rfl⟩
theorem wrap_least : wrap64 (-wrap64 9223372036854775808) = -9223372036854775808 := by unfold wrap64; omega
theorem str_nonempty (s : ByteArray) (h : 0 < s.size) : s.toList.isEmpty = false := by
  rw [ByteArray.toList_eq]
  rcases hl : s.data.toList with _ | ⟨a, l⟩
  · have : s.data.size = 0 := by rw [← Array.length_toList, hl]; rfl
    have h2 : s.size = s.data.size := rfl
    omega
  · rfl
theorem str_empty (s : ByteArray) (h : s.size = 0) : s.toList = [] := by
  rw [ByteArray.toList_eq]
  rcases hl : s.data.toList with _ | ⟨a, l⟩
  · rfl
  · have : s.data.size = l.length + 1 := by rw [← Array.length_toList, hl]; rfl
    have h2 : s.size = s.data.size := rfl
    omega
theorem number_empty (s : ByteArray) (w : World) (hs : s.size = 0) :
    Calls Tryz.prog 82 #[.string s] w (NumPost s w) := by
  have hz := str_empty s hs
  have hz2 : (s.size : Int) = 0 := by omega
  have Hs := Lib.hid hs
  clear hs
  go_enter Tryz.func82, Tryz.ntmps82
  go_wp2
  go_ret2
  have h := num_pos_early s (by rw [bt_out s 0 (by rw [Hs.out]; omega)]; omega) (.inl Hs.out)
  exact num_no s w 0 h.1 h.2
theorem number_pos_bad (s : ByteArray) (w : World) (h0 : 0 < s.size) (hs : s.size ≤ 4096) (hm : bt s 0 ≠ 45) (hbad : 19 < s.size ∨ (bt s 0 = 48 ∧ 1 < s.size)) :
    Calls Tryz.prog 82 #[.string s] w (NumPost s w) := by
  have hb := bt_at s 0
  have hr := bt_range s 0
  have hne : (bt s 0 == 45) = false := by simpa using hm
  have hz := str_nonempty s h0
  have Hn : Hid (numOf s = none ∧ numJ s = 0) := num_pos_early s hm (by omega)
  clear hm
  by_cases h19 : 19 < s.size
  · clear hbad
    go_enter Tryz.func82, Tryz.ntmps82
    go_wp2
    go_ret2
    exact num_no s w 0 Hn.out.1 Hn.out.2
  · obtain ⟨h48, h1⟩ := hbad.resolve_left h19
    have h48' : (bt s 0 == 48) = true := by simpa using h48
    clear hbad h48 hne
    go_enter Tryz.func82, Tryz.ntmps82
    go_wp2
    go_ret2
    exact num_no s w 0 Hn.out.1 Hn.out.2
set_option maxRecDepth 100000 in
theorem number_pos_good (s : ByteArray) (w : World) (h0 : 0 < s.size) (hs : s.size ≤ 19) (hm : bt s 0 ≠ 45) (hgood : bt s 0 = 48 → s.size ≤ 1) :
    Calls Tryz.prog 82 #[.string s] w (NumPost s w) := by
  have hb := bt_at s 0
  have hr := bt_range s 0
  have hne : (bt s 0 == 45) = false := by simpa using hm
  have hz := str_nonempty s h0
  have hq : ((bt s 0 == 48) && decide (1 < (s.size : Int))) = false := by
    rcases h : bt s 0 == 48 with _ | _
    · rfl
    · have := hgood (by simpa using h)
      simp; omega
  have H0 : Hid (numOf s = (digitsFrom s 0 0).bind capPos) := by
    unfold Hid numOf
    rw [if_neg hm, if_neg (by omega)]
  have HJ : Hid (numJ s = ((digitsFrom s 0 0).map wrap64).getD 0) := by
    unfold Hid numJ
    rw [if_neg hm, if_neg (by omega)]
  clear hm hq
  have hcase : (bt s 0 == 48) = true ∧ s.size ≤ 1 ∨ (bt s 0 == 48) = false := by
    rcases h : bt s 0 == 48 with _ | _
    · exact .inr rfl
    · exact .inl ⟨rfl, hgood (by simpa using h)⟩
  clear hgood
  rcases hcase with ⟨h48, h1⟩ | h48
  all_goals
    go_enter Tryz.func82, Tryz.ntmps82
    go_wp2
    clear h48
    go_loop [6, 7] (fun x i => ∃ (k y : Nat), i = .int .i64 k ∧ x = .int .u64 y ∧ k ≤ s.size ∧ Hid (y < 10 ^ k) ∧ Hid (digitsFrom s 0 0 = digitsFrom s k y)) (fun _ i => s.size - (intOf i).toNat)
    case atStart => exact ⟨0, 0, rfl, rfl, by omega, by unfold Hid; simp, rfl⟩
    case round =>
      obtain ⟨k, y, rfl, rfl, hk, hy, hd⟩ := hrel
      clear hb hr
      by_cases hlt : k < s.size
      · have hbk := bt_at s k
        have hrk := bt_range s k
        have hy2 : y ≤ 999999999999999999 := pow_bound y k hy.out (by omega)
        by_cases hdig : 48 ≤ bt s k ∧ bt s k ≤ 57
        · obtain ⟨hd1, hd2⟩ := hdig
          have Hs := Lib.hid (digits_step s k y hlt hd1 hd2)
          go_wp2
          go_round
          case rel =>
            refine ⟨k + 1, y * 10 + (bt s k - 48).toNat, by go_num, ?_, by omega, ?_, ?_⟩
            · congr 1; omega
            · exact pow_step y k _ hy.out hd1 hd2
            · unfold Hid
              rw [hd.out, Hs.out]
              congr 1
              omega
          case measure => simp [intOf]; omega
        · have Hs := Lib.hid (digits_bad s k y hlt (by omega))
          go_wp2
          all_goals
            go_ret2
            exact num_no s w 0 (by rw [H0.out, hd.out, Hs.out]; rfl) (numJ_none s _ _ HJ.out (hd.out.trans Hs.out))
      · have Hs := Lib.hid (digits_end s k y hlt)
        rcases lim_cases y with ⟨hle, hdec⟩ | ⟨hle, hdec⟩
        · have Hle := Lib.hid hle
          go_wp2
          go_ret2
          exact num_yes s w y (by rw [H0.out, hd.out, Hs.out, Option.bind_some, capPos_yes y Hle.out])
        · have Hle : Hid (9223372036854775808 ≤ (y : Int)) := by unfold Hid; omega
          clear hle
          go_wp2
          all_goals
            go_ret2
            exact num_no s w _ (by rw [H0.out, hd.out, Hs.out, Option.bind_some, capPos_no y Hle.out]) (numJ_some s _ _ _ HJ.out (hd.out.trans Hs.out))
theorem number_neg_bad (s : ByteArray) (w : World) (h0 : 0 < s.size) (hs : s.size ≤ 4096) (hm : bt s 0 = 45) (hbad : s.size ≤ 1 ∨ 20 < s.size ∨ bt s 1 = 48) :
    Calls Tryz.prog 82 #[.string s] w (NumPost s w) := by
  have hb := bt_at s 0
  have hr := bt_range s 0
  have hne : (bt s 0 == 45) = true := by simpa using hm
  have hz := str_nonempty s h0
  have Hn : Hid (numOf s = none ∧ numJ s = 0) := num_neg_early s hm hbad
  have hsz : (s.extract 1 s.size).size = s.size - 1 := by rw [ByteArray.size_extract]; omega
  have Hm := Lib.hid hm
  clear hm
  by_cases h1 : s.size ≤ 1
  · have hz1 := str_empty (s.extract 1 s.size) (by omega)
    have hd1 : s.size = 1 := by omega
    clear hbad
    go_enter Tryz.func82, Tryz.ntmps82
    go_wp2
    go_ret2
    exact num_no s w 0 Hn.out.1 Hn.out.2
  · have hz1 := str_nonempty (s.extract 1 s.size) (by omega)
    have hb1 := fun h => (bt_at (s.extract 1 s.size) 0 h).trans (bt_tail s 0)
    have hr1 := bt_range s 1
    by_cases h20 : 20 < s.size
    · clear hbad
      go_enter Tryz.func82, Tryz.ntmps82
      go_wp2
      go_ret2
      exact num_no s w 0 Hn.out.1 Hn.out.2
    · have h48 : (bt s 1 == 48) = true := by simp; omega
      clear hbad
      go_enter Tryz.func82, Tryz.ntmps82
      go_wp2
      all_goals
        go_ret2
        exact num_no s w 0 Hn.out.1 Hn.out.2
set_option maxRecDepth 100000 in
theorem number_neg_good (s : ByteArray) (w : World) (h0 : 1 < s.size) (hs : s.size ≤ 20) (hm : bt s 0 = 45) (hgood : bt s 1 ≠ 48) :
    Calls Tryz.prog 82 #[.string s] w (NumPost s w) := by
  have hb := bt_at s 0
  have hr := bt_range s 0
  have hne : (bt s 0 == 45) = true := by simpa using hm
  have hz := str_nonempty s (by omega)
  have hsz : (s.extract 1 s.size).size = s.size - 1 := by rw [ByteArray.size_extract]; omega
  have hz1 := str_nonempty (s.extract 1 s.size) (by omega)
  have hb1 := fun h => (bt_at (s.extract 1 s.size) 0 h).trans (bt_tail s 0)
  have hr1 := bt_range s 1
  have h48 : (bt s 1 == 48) = false := by simpa using hgood
  have H0 : Hid (numOf s = (digitsFrom s 1 0).bind capNeg) := by
    unfold Hid numOf
    rw [if_pos hm, if_neg (by omega)]
  have HJ : Hid (numJ s = ((digitsFrom s 1 0).map fun x => wrap64 (-wrap64 x)).getD 0) := by
    unfold Hid numJ
    rw [if_pos hm, if_neg (by omega)]
  clear hm hgood
  go_enter Tryz.func82, Tryz.ntmps82
  go_wp2
  all_goals
    clear h48 hb1 hr1
    go_loop [6, 7] (fun x i => ∃ (k y : Nat), i = .int .i64 k ∧ x = .int .u64 y ∧ k ≤ s.size - 1 ∧ Hid (y < 10 ^ k) ∧ Hid (digitsFrom s 1 0 = digitsFrom s (k + 1) y)) (fun _ i => s.size - (intOf i).toNat)
    case atStart => exact ⟨0, 0, rfl, rfl, by omega, by unfold Hid; simp, rfl⟩
    case round =>
      obtain ⟨k, y, rfl, rfl, hk, hy, hd⟩ := hrel
      clear hb hr
      by_cases hlt : k < s.size - 1
      · have hbk := fun h => (bt_at (s.extract 1 s.size) k h).trans (bt_tail s k)
        have hrk := bt_range s (k + 1)
        have hy2 : y ≤ 999999999999999999 := pow_bound y k hy.out (by omega)
        by_cases hdig : 48 ≤ bt s (k + 1) ∧ bt s (k + 1) ≤ 57
        · obtain ⟨hd1, hd2⟩ := hdig
          have Hs := Lib.hid (digits_step s (k + 1) y (by omega) hd1 hd2)
          go_wp2
          go_round
          case rel =>
            refine ⟨k + 1, y * 10 + (bt s (k + 1) - 48).toNat, by go_num, ?_, by omega, ?_, ?_⟩
            · congr 1; omega
            · exact pow_step y k _ hy.out hd1 hd2
            · unfold Hid
              rw [hd.out, Hs.out]
              congr 1
              omega
          case measure => simp [intOf]; omega
        · have Hs := Lib.hid (digits_bad s (k + 1) y (by omega) (by omega))
          go_wp2
          all_goals
            go_ret2
            exact num_no s w 0 (by rw [H0.out, hd.out, Hs.out]; rfl) (numJ_none s _ _ HJ.out (hd.out.trans Hs.out))
      · have Hs := Lib.hid (digits_end s (k + 1) y (by omega))
        rcases lim_cases2 y with ⟨hle, hdec⟩ | rfl | ⟨hle, hdec⟩
        · have Hle : Hid ((y : Int) ≤ 9223372036854775808) := by unfold Hid; omega
          go_wp2
          go_ret2
          exact num_yes s w _ (by rw [H0.out, hd.out, Hs.out, Option.bind_some, capNeg_yes y Hle.out])
        · have Hv := Lib.hid (show numOf s = some (-9223372036854775808) by rw [H0.out, hd.out, Hs.out, Option.bind_some, capNeg_yes _ (by omega)]; rfl)
          clear Hs hd hy H0
          go_wp2
          go_ret2
          show NumPost s w (.returned (.tuple #[.int .i64 (wrap64 (-wrap64 9223372036854775808)), .bool true])) w
          rw [wrap_least]
          exact num_yes s w _ Hv.out
        · have Hle : Hid (9223372036854775808 < (y : Int)) := hle
          clear hle
          go_wp2
          all_goals
            go_ret2
            exact num_no s w _ (by rw [H0.out, hd.out, Hs.out, Option.bind_some, capNeg_no y Hle.out]) (numJ_neg s y HJ.out (hd.out.trans Hs.out))
theorem number_calls (s : ByteArray) (w : World) (hs : s.size ≤ 4096) :
    Calls Tryz.prog 82 #[.string s] w (NumPost s w) := by
  by_cases h0 : s.size = 0
  · exact number_empty s w h0
  · by_cases hm : bt s 0 = 45
    · by_cases hbad : s.size ≤ 1 ∨ 20 < s.size ∨ bt s 1 = 48
      · exact number_neg_bad s w (by omega) hs hm hbad
      · exact number_neg_good s w (by omega) (by omega) hm (by omega)
    · by_cases hbad : 19 < s.size ∨ (bt s 0 = 48 ∧ 1 < s.size)
      · exact number_pos_bad s w (by omega) hs hm hbad
      · exact number_pos_good s w (by omega) (by omega) hm (by omega)
end Go.Proofs.YtkpholfdjgdjnaaGreatDoor
namespace Go.Proofs.YtkpholfdjgdjnaaGreatDoor
open Go Go.RowKit Go.Proofs
theorem fail_calls (w : World) (r : Nat) (A : Option Addr) (cap : Nat) (T : List Tok) (size k at_ : Nat) (e : Nat) (h : RR w r A cap T size k 0 at_) :
    Calls Tryz.prog 35 #[.pointer (some ⟨r, 0, none⟩), .int .i64 e] w fun x w' => x = .returned (.tuple #[]) ∧ Ext [r] w w' ∧ RR w' r A cap T size k e (atOf size (T.drop k)) := by
  rcases Nat.lt_or_ge k T.length with hk | hk
  · have ht : T[k]? = some T[k] := List.getElem?_eq_getElem hk
    refine (fail_word w r A cap T size k at_ e T[k] h ht).mono ?_
    rintro x w' ⟨h1, h2, h3⟩
    refine ⟨h1, h2, ?_⟩
    rw [List.drop_eq_getElem_cons hk]
    exact h3
  · have hk' : k = T.length := by have := h.le; omega
    refine (fail_end w r A cap T size k at_ e h hk').mono ?_
    rintro x w' ⟨h1, h2, h3⟩
    refine ⟨h1, h2, ?_⟩
    rw [List.drop_of_length_le (by omega)]
    exact h3
theorem is_old (w : World) (r : Nat) (A : Option Addr) (cap : Nat) (T : List Tok) (size k err at_ : Nat) (s : ByteArray) (b : Bool) (h : RR w r A cap T size k err at_) (he : err ≠ 0) :
    Calls Tryz.prog 32 #[.pointer (some ⟨r, 0, none⟩), .string s, .bool b] w fun x w' => x = .returned (.bool false) ∧ Ext [] w w' := by
  have c3 := h.blk.cell 3
  simp at c3
  have hne : ((err : Int) == 0) = false := by simp; omega
  clear h he
  go_enter Tryz.func32, Tryz.ntmps32
  go_wp2
  go_quiet (fail)
  go_wp2
  go_ret
  exact ⟨rfl, (Ext.refl [] w).drewN _⟩
set_option maxRecDepth 100000 in
theorem is_end (w : World) (r : Nat) (A : Option Addr) (cap : Nat) (T : List Tok) (size k at_ : Nat) (s : ByteArray) (b : Bool) (h : RR w r A cap T size k 0 at_) (hk : k = T.length) :
    Calls Tryz.prog 32 #[.pointer (some ⟨r, 0, none⟩), .string s, .bool b] w fun x w' => x = .returned (.bool false) ∧ Ext [] w w' := by
  have c0 := h.blk.cell 0
  have c1 := h.blk.cell 1
  have c3 := h.blk.cell 3
  simp at c0 c1 c3
  clear h
  subst hk
  go_enter Tryz.func32, Tryz.ntmps32
  go_wp2
  go_quiet (fail)
  go_wp2
  go_ret
  exact ⟨rfl, (Ext.refl [] w).drewN _⟩
set_option maxRecDepth 100000 in
theorem is_other (w : World) (r : Nat) (A : Option Addr) (cap : Nat) (T : List Tok) (size k at_ : Nat) (s : ByteArray) (b : Bool) (t : Tok) (h : RR w r A cap T size k 0 at_) (ht : T[k]? = some t) (hs : t.1 ≠ s) :
    Calls Tryz.prog 32 #[.pointer (some ⟨r, 0, none⟩), .string s, .bool b] w fun x w' => x = .returned (.bool false) ∧ Ext [] w w' := by
  obtain ⟨bb, rfl, hb, t0, t1, t2⟩ := h.tok t ht
  have c0 := h.blk.cell 0
  have c1 := h.blk.cell 1
  have c3 := h.blk.cell 3
  simp at c0 c1 c3
  have hk := getElem?_lt ht
  have hki : (k : Int) < (T.length : Int) := by omega
  have hd : decide ((k : Int) < (T.length : Int)) = true := by simpa using hk
  have hq : (t.1.toList == s.toList) = false := by rw [str_eq]; simpa using hs
  have hsm := h.small
  clear ht h hs
  go_enter Tryz.func32, Tryz.ntmps32
  go_wp2
  go_quiet (fail)
  go_wp2
  go_ret
  exact ⟨rfl, (Ext.refl [] w).drewN _⟩
set_option maxRecDepth 100000 in
theorem is_there (w : World) (r : Nat) (A : Option Addr) (cap : Nat) (T : List Tok) (size k at_ : Nat) (s : ByteArray) (b : Bool) (t : Tok) (h : RR w r A cap T size k 0 at_) (ht : T[k]? = some t) (hs : t.1 = s) (hb : signT s = b) :
    Calls Tryz.prog 32 #[.pointer (some ⟨r, 0, none⟩), .string s, .bool b] w fun x w' => x = .returned (.bool true) ∧ Ext [] w w' := by
  obtain ⟨bb, rfl, hbr, t0, t1, t2⟩ := h.tok t ht
  have c0 := h.blk.cell 0
  have c1 := h.blk.cell 1
  have c3 := h.blk.cell 3
  simp at c0 c1 c3
  have hk := getElem?_lt ht
  have hki : (k : Int) < (T.length : Int) := by omega
  have hd : decide ((k : Int) < (T.length : Int)) = true := by simpa using hk
  have hsm := h.small
  rw [hs] at t0 t2
  rw [hb] at t2
  have hq : (s.toList == s.toList) = true := by simp
  have hqb : (b == b) = true := by simp
  clear ht h hs hb
  go_enter Tryz.func32, Tryz.ntmps32
  go_wp2
  go_quiet (fail)
  go_wp2
  go_ret
  exact ⟨rfl, (Ext.refl [] w).drewN _⟩
theorem RR.keep {w w' : World} {r : Nat} {A : Option Addr} {cap : Nat} {T : List Tok} {size k err at_ : Nat} (h : RR w r A cap T size k err at_) (e : Ext [] w w') : RR w' r A cap T size k err at_ := h.ext e (by simp) (by simp)
theorem is_calls (w : World) (r : Nat) (A : Option Addr) (cap : Nat) (T : List Tok) (size k at_ : Nat) (s : ByteArray) (b : Bool) (h : RR w r A cap T size k 0 at_) (hb : signT s = b) :
    Calls Tryz.prog 32 #[.pointer (some ⟨r, 0, none⟩), .string s, .bool b] w fun x w' => x = .returned (.bool (pHas s (T.drop k))) ∧ Ext [] w w' := by
  rcases Nat.lt_or_ge k T.length with hk | hk
  · have ht : T[k]? = some T[k] := List.getElem?_eq_getElem hk
    rw [List.drop_eq_getElem_cons hk]
    by_cases hs : T[k].1 = s
    · have e : pHas s (T[k] :: T.drop (k + 1)) = true := by simp [pHas, hs]
      rw [e]
      exact is_there w r A cap T size k at_ s b _ h ht hs hb
    · have e : pHas s (T[k] :: T.drop (k + 1)) = false := by simp [pHas, hs]
      rw [e]
      exact is_other w r A cap T size k at_ s b _ h ht hs
  · rw [List.drop_of_length_le hk]
    exact is_end w r A cap T size k at_ s b h (by have := h.le; omega)
def RDone (w : World) (r : Nat) (A : Option Addr) (cap : Nat) (T : List Tok) (size : Nat) {α : Type} (res : Res α) (k' err at_ : Nat) (w' : World) : Prop :=
  Ext [r] w w' ∧ RR w' r A cap T size k' err at_ ∧ match res with
    | .ok (_, L) => err = 0 ∧ T.drop k' = L
    | .error (a, e) => err = e ∧ err ≠ 0 ∧ at_ = a
theorem want_old (w : World) (r : Nat) (A : Option Addr) (cap : Nat) (T : List Tok) (size k err at_ : Nat) (s : ByteArray) (b : Bool) (h : RR w r A cap T size k err at_) (he : err ≠ 0) :
    Calls Tryz.prog 132 #[.pointer (some ⟨r, 0, none⟩), .string s, .bool b] w fun x w' => x = .returned (.tuple #[]) ∧ Ext [] w w' := by
  go_enter Tryz.func132, Tryz.ntmps132
  go_wp2_with (first
    | (go_at_call 32; refine (is_old _ r A cap T size k err at_ s b h he).mono ?_; rintro e w1 ⟨rfl, h1⟩)
    | (go_at_call 35; refine (fail_old _ r A cap T size k err at_ 61 (h.keep h1) he).mono ?_; rintro e w2 ⟨rfl, rfl⟩))
  go_end0
  exact ⟨rfl, h1⟩
theorem want_yes (w : World) (r : Nat) (A : Option Addr) (cap : Nat) (T : List Tok) (size k at_ : Nat) (s : ByteArray) (b : Bool) (h : RR w r A cap T size k 0 at_) (hb : signT s = b) (hp : pHas s (T.drop k) = true) :
    Calls Tryz.prog 132 #[.pointer (some ⟨r, 0, none⟩), .string s, .bool b] w fun x w' => x = .returned (.tuple #[]) ∧ Ext [r] w w' ∧ RR w' r A cap T size (k + 1) 0 at_ := by
  have Hp := Lib.hid hp
  clear hp
  have hsm := h.small
  have hk : k < T.length := by
    rcases Nat.lt_or_ge k T.length with h1 | h1
    · exact h1
    · have := Hp.out
      rw [List.drop_of_length_le h1] at this
      cases this
  go_enter Tryz.func132, Tryz.ntmps132
  go_wp2_with (first
    | (go_at_call 32; refine (is_calls _ r A cap T size k at_ s b h hb).mono ?_; rw [Hp.out]; rintro e w1 ⟨rfl, h1⟩; have h2 := h.keep h1; have c1 := h2.c1; have f1 := h2.blk.frozen 1))
  refine bodyPost_ret (results_none rfl _ _ _) rfl ?_
  exact ⟨rfl, h1.nil.trans (h2.adv hk).1, (h2.adv hk).2⟩
theorem want_no (w : World) (r : Nat) (A : Option Addr) (cap : Nat) (T : List Tok) (size k at_ : Nat) (s : ByteArray) (b : Bool) (h : RR w r A cap T size k 0 at_) (hb : signT s = b) (hp : pHas s (T.drop k) = false) :
    Calls Tryz.prog 132 #[.pointer (some ⟨r, 0, none⟩), .string s, .bool b] w fun x w' => x = .returned (.tuple #[]) ∧ Ext [r] w w' ∧ RR w' r A cap T size k 61 (atOf size (T.drop k)) := by
  have Hp := Lib.hid hp
  clear hp
  go_enter Tryz.func132, Tryz.ntmps132
  go_wp2_with (first
    | (go_at_call 32; refine (is_calls _ r A cap T size k at_ s b h hb).mono ?_; rw [Hp.out]; rintro e w1 ⟨rfl, h1⟩)
    | (go_at_call 35; refine (fail_calls _ r A cap T size k at_ 61 (h.keep h1)).mono ?_; rintro e w2 ⟨rfl, h2, h3⟩))
  go_end0
  exact ⟨rfl, h1.nil.trans h2, h3⟩
end Go.Proofs.YtkpholfdjgdjnaaGreatDoor
namespace Go.Proofs.YtkpholfdjgdjnaaGreatDoor
open Go Go.RowKit Go.Proofs
theorem rnum_old (w : World) (r : Nat) (A : Option Addr) (cap : Nat) (T : List Tok) (size k err at_ : Nat) (lo hi : Int) (h : RR w r A cap T size k err at_) (he : err ≠ 0) :
    Calls Tryz.prog 34 #[.pointer (some ⟨r, 0, none⟩), .int .i64 lo, .int .i64 hi] w fun x w' => x = .returned (.int .i64 0) ∧ Ext [] w w' := by
  have c3 := h.c3
  have hne : ((err : Int) == 0) = false := by simp; omega
  go_enter Tryz.func34, Tryz.ntmps34
  go_wp2
  go_quiet (fail)
  go_wp2_with (go_at_call 35; refine (fail_old _ r A cap T size k err at_ 31 (h.keep ((Ext.refl [] w).drewN _)) he).mono ?_; rintro e w2 ⟨rfl, rfl⟩)
  go_ret
  exact ⟨rfl, (Ext.refl [] w).drewN _⟩
theorem rnum_end (w : World) (r : Nat) (A : Option Addr) (cap : Nat) (T : List Tok) (size k at_ : Nat) (lo hi : Int) (h : RR w r A cap T size k 0 at_) (hk : k = T.length) :
    Calls Tryz.prog 34 #[.pointer (some ⟨r, 0, none⟩), .int .i64 lo, .int .i64 hi] w fun x w' => x = .returned (.int .i64 0) ∧ Ext [r] w w' ∧ RR w' r A cap T size k 31 size := by
  subst hk
  have c0 := h.c0
  have c1 := h.c1
  have c3 := h.c3
  go_enter Tryz.func34, Tryz.ntmps34
  go_wp2
  go_quiet (fail)
  go_wp2_with (go_at_call 35; refine (fail_end _ r A cap T size _ at_ 31 (h.keep ((Ext.refl [] w).drewN _)) rfl).mono ?_; rintro e w2 ⟨rfl, h2, h3⟩)
  go_ret
  exact ⟨rfl, ((Ext.refl [] w).drewN _).nil.trans h2, h3⟩
theorem rnum_sign (w : World) (r : Nat) (A : Option Addr) (cap : Nat) (T : List Tok) (size k at_ : Nat) (lo hi : Int) (t : Tok) (h : RR w r A cap T size k 0 at_) (ht : T[k]? = some t) (hs : signT t.1 = true) :
    Calls Tryz.prog 34 #[.pointer (some ⟨r, 0, none⟩), .int .i64 lo, .int .i64 hi] w fun x w' => x = .returned (.int .i64 0) ∧ Ext [r] w w' ∧ RR w' r A cap T size k 31 t.2 := by
  obtain ⟨b, rfl, hb, t0, t1, t2⟩ := h.tok t ht
  rw [hs] at t2
  have c0 := h.c0
  have c1 := h.c1
  have c3 := h.c3
  have hk := getElem?_lt ht
  have hki : (k : Int) < (T.length : Int) := by omega
  have hd : decide ((k : Int) < (T.length : Int)) = true := by simpa using hk
  have hsm := h.small
  have Ht := Lib.hid ht
  clear ht hs
  go_enter Tryz.func34, Tryz.ntmps34
  go_wp2
  go_quiet (fail)
  go_wp2_with (go_at_call 35; refine (fail_word _ r _ cap T size k at_ 31 t (h.keep ((Ext.refl [] w).drewN _)) Ht.out).mono ?_; rintro e w2 ⟨rfl, h2, h3⟩)
  go_ret
  exact ⟨rfl, ((Ext.refl [] w).drewN _).nil.trans h2, h3⟩
theorem number_is (s : ByteArray) (w : World) (hs : s.size ≤ 4096) (b : Bool) (hb : (numOf s).isSome = b) (v : Int) (hv : numV s = v) :
    Calls Tryz.prog 82 #[.string s] w fun e w' => e = .returned (.tuple #[.int .i64 v, .bool b]) ∧ w = w' := by
  subst hb
  subst hv
  exact number_calls s w hs
set_option maxRecDepth 100000 in
theorem rnum_none (w : World) (r : Nat) (A : Option Addr) (cap : Nat) (T : List Tok) (size k at_ : Nat) (lo hi : Int) (t : Tok) (h : RR w r A cap T size k 0 at_) (ht : T[k]? = some t) (hs : signT t.1 = false) (hsz : t.1.size ≤ 4096) (hn : numOf t.1 = none) :
    Calls Tryz.prog 34 #[.pointer (some ⟨r, 0, none⟩), .int .i64 lo, .int .i64 hi] w fun x w' => x = .returned (.int .i64 0) ∧ Ext [r] w w' ∧ RR w' r A cap T size k 31 t.2 := by
  obtain ⟨b, rfl, hb, t0, t1, t2⟩ := h.tok t ht
  rw [hs] at t2
  have c0 := h.c0
  have c1 := h.c1
  have c3 := h.c3
  have hk := getElem?_lt ht
  have hki : (k : Int) < (T.length : Int) := by omega
  have hd : decide ((k : Int) < (T.length : Int)) = true := by simpa using hk
  have hsm := h.small
  have Ht := Lib.hid ht
  have Hn := Lib.hid (show (numOf t.1).isSome = false by rw [hn]; rfl)
  clear ht hs hn
  go_enter Tryz.func34, Tryz.ntmps34
  go_wp2
  go_quiet (fail)
  go_wp2_with fail
  go_quiet ((go_at_call 82; exact quietL (number_is t.1 _ hsz false Hn.out _ rfl)))
  go_wp2_with (go_at_call 35; refine (fail_word _ r _ cap T size k at_ 31 t (h.keep ((Ext.refl [] w).drewN _)) Ht.out).mono ?_; rintro e w2 ⟨rfl, h2, h3⟩)
  go_ret
  exact ⟨rfl, ((Ext.refl [] w).drewN _).nil.trans h2, h3⟩
set_option maxRecDepth 100000 in
theorem rnum_out (w : World) (r : Nat) (A : Option Addr) (cap : Nat) (T : List Tok) (size k at_ : Nat) (lo hi : Int) (t : Tok) (h : RR w r A cap T size k 0 at_) (ht : T[k]? = some t) (hs : signT t.1 = false) (hsz : t.1.size ≤ 4096) (n : Int) (hn : numOf t.1 = some n) (hb : ¬ (lo ≤ n ∧ n ≤ hi)) :
    Calls Tryz.prog 34 #[.pointer (some ⟨r, 0, none⟩), .int .i64 lo, .int .i64 hi] w fun x w' => x = .returned (.int .i64 0) ∧ Ext [r] w w' ∧ RR w' r A cap T size k 31 t.2 := by
  obtain ⟨b, rfl, hbr, t0, t1, t2⟩ := h.tok t ht
  rw [hs] at t2
  have c0 := h.c0
  have c1 := h.c1
  have c3 := h.c3
  have hk := getElem?_lt ht
  have hki : (k : Int) < (T.length : Int) := by omega
  have hd : decide ((k : Int) < (T.length : Int)) = true := by simpa using hk
  have hsm := h.small
  have Ht := Lib.hid ht
  have hv : numV t.1 = n := by unfold numV; rw [hn]; rfl
  rw [← hv] at hb
  have Hn := Lib.hid (show (numOf t.1).isSome = true by rw [hn]; rfl)
  clear ht hs hn hv
  generalize hx : numV t.1 = x at *
  have Hx := Lib.hid hx
  clear hx
  go_enter Tryz.func34, Tryz.ntmps34
  go_wp2
  go_quiet (fail)
  go_wp2_with fail
  go_quiet ((go_at_call 82; exact quietL (number_is t.1 _ hsz true Hn.out x Hx.out)))
  go_wp2_with (go_at_call 35; refine (fail_word _ r _ cap T size k at_ 31 t (h.keep ((Ext.refl [] w).drewN _)) Ht.out).mono ?_; rintro e w2 ⟨rfl, h2, h3⟩)
  all_goals
    go_ret
    exact ⟨rfl, ((Ext.refl [] w).drewN _).nil.trans h2, h3⟩
set_option maxRecDepth 100000 in
theorem rnum_in (w : World) (r : Nat) (A : Option Addr) (cap : Nat) (T : List Tok) (size k at_ : Nat) (lo hi : Int) (t : Tok) (h : RR w r A cap T size k 0 at_) (ht : T[k]? = some t) (hs : signT t.1 = false) (hsz : t.1.size ≤ 4096) (n : Int) (hn : numOf t.1 = some n) (hb1 : lo ≤ n) (hb2 : n ≤ hi) :
    Calls Tryz.prog 34 #[.pointer (some ⟨r, 0, none⟩), .int .i64 lo, .int .i64 hi] w fun x w' => x = .returned (.int .i64 n) ∧ Ext [r] w w' ∧ RR w' r A cap T size (k + 1) 0 at_ := by
  obtain ⟨b, rfl, hbr, t0, t1, t2⟩ := h.tok t ht
  rw [hs] at t2
  have c0 := h.c0
  have c1 := h.c1
  have c3 := h.c3
  have f1 := h.blk.frozen 1
  have hk := getElem?_lt ht
  have hki : (k : Int) < (T.length : Int) := by omega
  have hd : decide ((k : Int) < (T.length : Int)) = true := by simpa using hk
  have hsm := h.small
  have Hx : Hid (numV t.1 = n) := by unfold Hid numV; rw [hn]; rfl
  have Hn := Lib.hid (show (numOf t.1).isSome = true by rw [hn]; rfl)
  clear ht hs hn
  go_enter Tryz.func34, Tryz.ntmps34
  go_wp2
  go_quiet (fail)
  go_wp2_with fail
  go_quiet ((go_at_call 82; exact quietL (number_is t.1 _ hsz true Hn.out n Hx.out)))
  go_wp2
  go_ret
  refine ⟨rfl, ?_, ?_⟩
  · exact ((Ext.refl [r] w).drewN _).trans ((h.keep ((Ext.refl [] w).drewN _)).adv hk).1
  · exact ((h.keep ((Ext.refl [] w).drewN _)).adv hk).2
theorem rnum_calls (w : World) (r : Nat) (A : Option Addr) (cap : Nat) (T : List Tok) (size k at_ : Nat) (lo hi : Int) (h : RR w r A cap T size k 0 at_) (hsz : ∀ t ∈ T, t.1.size ≤ 4096) :
    Calls Tryz.prog 34 #[.pointer (some ⟨r, 0, none⟩), .int .i64 lo, .int .i64 hi] w fun x w' => ∃ v k' err' at', x = .returned (.int .i64 v) ∧ RDone w r A cap T size (pNum size lo hi (T.drop k)) k' err' at' w' ∧ ∀ n L, pNum size lo hi (T.drop k) = .ok (n, L) → v = n := by
  rcases Nat.lt_or_ge k T.length with hk | hk
  · have ht : T[k]? = some T[k] := List.getElem?_eq_getElem hk
    have hz := hsz T[k] (List.getElem_mem hk)
    have hdrop := List.drop_eq_getElem_cons hk
    rcases hn : numOf T[k].1 with _ | n
    · have hp : pNum size lo hi (T.drop k) = .error (T[k].2, 31) := by rw [hdrop]; unfold pNum; simp only [hn]
      rw [hp]
      have hc : Calls Tryz.prog 34 #[.pointer (some ⟨r, 0, none⟩), .int .i64 lo, .int .i64 hi] w fun x w' => x = .returned (.int .i64 0) ∧ Ext [r] w w' ∧ RR w' r A cap T size k 31 T[k].2 := by
        rcases hs : signT T[k].1 with _ | _
        · exact rnum_none w r A cap T size k at_ lo hi _ h ht hs hz hn
        · exact rnum_sign w r A cap T size k at_ lo hi _ h ht hs
      refine hc.mono ?_
      rintro x w' ⟨h1, h2, h3⟩
      exact ⟨0, k, 31, _, h1, ⟨h2, h3, rfl, by omega, rfl⟩, by intro n L hL; cases hL⟩
    · have hs : signT T[k].1 = false := num_word (by rw [hn]; simp)
      by_cases hb : lo ≤ n ∧ n ≤ hi
      · have hp : pNum size lo hi (T.drop k) = .ok (n, T.drop (k + 1)) := by rw [hdrop]; unfold pNum; simp only [hn]; rw [if_pos hb]
        rw [hp]
        refine (rnum_in w r A cap T size k at_ lo hi _ h ht hs hz n hn hb.1 hb.2).mono ?_
        rintro x w' ⟨h1, h2, h3⟩
        exact ⟨n, k + 1, 0, at_, h1, ⟨h2, h3, rfl, rfl⟩, by intro m L hL; cases hL; rfl⟩
      · have hp : pNum size lo hi (T.drop k) = .error (T[k].2, 31) := by rw [hdrop]; unfold pNum; simp only [hn]; rw [if_neg hb]
        rw [hp]
        refine (rnum_out w r A cap T size k at_ lo hi _ h ht hs hz n hn hb).mono ?_
        rintro x w' ⟨h1, h2, h3⟩
        exact ⟨0, k, 31, _, h1, ⟨h2, h3, rfl, by omega, rfl⟩, by intro n L hL; cases hL⟩
  · have hd := List.drop_of_length_le hk
    rw [hd]
    refine (rnum_end w r A cap T size k at_ lo hi h (by have := h.le; omega)).mono ?_
    rintro x w' ⟨h1, h2, h3⟩
    exact ⟨0, k, 31, size, h1, ⟨h2, h3, rfl, by omega, rfl⟩, by intro n L hL; cases hL⟩
end Go.Proofs.YtkpholfdjgdjnaaGreatDoor
namespace Go.Proofs.YtkpholfdjgdjnaaGreatDoor
open Go Go.RowKit Go.Proofs
def colA (c : ColZ) : Value := .agg #[.int .i64 c.op, .string c.name]
theorem RR.lt {w : World} {r : Nat} {A : Option Addr} {cap : Nat} {T : List Tok} {size k err at_ : Nat} (h : RR w r A cap T size k err at_) : r < w.heap.size := h.blk.lt
theorem rcol_old (w : World) (r : Nat) (A : Option Addr) (cap : Nat) (T : List Tok) (size k err at_ : Nat) (h : RR w r A cap T size k err at_) (he : err ≠ 0) :
    Calls Tryz.prog 80 #[.pointer (some ⟨r, 0, none⟩)] w fun x w' => x = .returned (.agg #[.int .i64 0, .string ⟨#[]⟩]) ∧ Ext [] w w' := by
  have c3 := h.c3
  have hr := h.lt
  have hne : ((err : Int) == 0) = false := by simp; omega
  go_enter Tryz.func80, Tryz.ntmps80
  go_wp2
  go_quiet (fail)
  go_wp2_with (go_at_call 35; refine (fail_old _ r A cap T size k err at_ 61 (h.keep ((((Ext.refl [] w).alloc _).alloc _).drewN _)) he).mono ?_; rintro e w2 ⟨rfl, rfl⟩)
  refine bodyPost_ret (v := .agg #[.int .i64 0, .string ⟨#[]⟩]) (by simp [results, Tryz.results80, go_sem]) rfl ⟨rfl, ?_⟩
  (repeat (first | exact Ext.refl _ _ | with_reducible refine Ext.alloc ?_ _ | with_reducible refine Ext.drewN ?_ _ | with_reducible refine Ext.drew ?_ | with_reducible refine Ext.setCell ?_ _ (by first | (simp; done) | (simp; omega)) _))
theorem RR.set_new {w : World} {r : Nat} {A : Option Addr} {cap : Nat} {T : List Tok} {size k err at_ : Nat} (h : RR w r A cap T size k err at_) (p : Addr) (v : Value) (hp : p.block ≠ r)
    (hA : T ≠ [] → ∀ b, A = some ⟨b, 0, none⟩ → p.block ≠ b) : RR (w.setCell p v) r A cap T size k err at_ :=
  h.ext (S := [p.block]) ((Ext.refl _ w).setCell p (by simp) v) (by simpa using fun e => hp e.symm) (fun hne b hb => by simpa using fun e => hA hne b hb e.symm)
theorem place_is (b : Nat) (l : List ByteArray) (s : ByteArray) (w : World) (n m : Nat) (hn : n = l.length) (hb : n ≤ 100) (h1 : 1 ≤ n)
  (hc : ∀ k, k < n → w.cell? ⟨b, k, none⟩ = some (.string (l[k]?.getD ByteArray.empty))) (hm : idx l s = m) :
    Calls Tryz.prog 131 #[.slice (some ⟨b, 0, none⟩) n n, .string s] w fun e w' => e = .returned (.int .i64 m) ∧ w = w' := by
  subst hm
  exact place_calls b l s w n hn hb h1 hc
theorem tab_cells (w : World) (l : List ByteArray) (t : TypeId) (m n : Nat) (hn : n = w.heap.size) (hm : m = l.length) : ∀ k, k < m → (w.alloc (.cells (tabV l) t)).cell? ⟨n, k, none⟩ = some (.string (l[k]?.getD ByteArray.empty)) := by
  intro k hk
  rw [World.cell?_alloc_at _ _ _ _ hn, tabV_get l k (by omega)]
set_option maxRecDepth 100000 in
set_option maxHeartbeats 1000000 in
theorem rcol_zero (w : World) (r : Nat) (A : Option Addr) (cap : Nat) (T : List Tok) (size k at_ : Nat) (t : Tok) (h : RR w r A cap T size k 0 at_) (ht : T[k]? = some t) (hs : signT t.1 = false) (h0 : idx colW t.1 = 0) :
    Calls Tryz.prog 80 #[.pointer (some ⟨r, 0, none⟩)] w fun x w' => x = .returned (.agg #[.int .i64 0, .string ⟨#[]⟩]) ∧ Ext [r] w w' ∧ RR w' r A cap T size k 61 t.2 := by
  obtain ⟨b, rfl, hbr, t0, t1, t2⟩ := h.tok t ht
  rw [hs] at t2
  have c0 := h.c0
  have c1 := h.c1
  have c3 := h.c3
  have hr := h.lt
  have hbl : b < w.heap.size := World.block_lt_of_cell? w _ t0
  have HA : T ≠ [] → ∀ b', some (⟨b, 0, none⟩ : Addr) = some ⟨b', 0, none⟩ → w.heap.size ≠ b' := by intro _ b' hb'; injection hb' with hb'; injection hb'; omega
  have hk := getElem?_lt ht
  have hki : (k : Int) < (T.length : Int) := by omega
  have hd : decide ((k : Int) < (T.length : Int)) = true := by simpa using hk
  have hsm := h.small
  have Ht := Lib.hid ht
  have H0 := Lib.hid h0
  clear ht hs h0
  go_enter Tryz.func80, Tryz.ntmps80
  go_wp2
  go_quiet (fail)
  go_wp2_with fail
  go_region_held3 (fun w' => w'.cell? ⟨r, 0, none⟩ = some (.slice (some ⟨b, 0, none⟩) T.length cap) ∧ w'.cell? ⟨r, 1, none⟩ = some (.int .i64 k) ∧ w'.cell? ⟨b, k * 3, none⟩ = some (.string t.1)) (first | (refine ⟨Ext.keeps (S := []) ?_ c0 (by simp), Ext.keeps (S := []) ?_ c1 (by simp), Ext.keeps (S := []) ?_ t0 (by simp)⟩ <;> (repeat (first | exact Ext.refl _ _ | with_reducible refine Ext.alloc ?_ _ | with_reducible refine Ext.drewN ?_ _ | with_reducible refine Ext.drew ?_ | with_reducible refine Ext.setCell ?_ _ (by simp) _))) | go_keep)
    (first
      | (go_at_call 91; refine (colWords_calls _).mono ?_; rintro e w' ⟨rfl, rfl⟩)
      | (go_at_call 131; refine (place_is _ colW t.1 _ 10 0 rfl (by omega) (by omega) ?_ H0.out).mono ?_; (exact tab_cells _ colW 9 10 _ (by simp [World.drewN]) rfl); rintro e w' ⟨rfl, rfl⟩))
  go_wp2_with fail
  refine (fail_word _ r _ cap T size k at_ 61 t (h.ext (S := []) (by repeat (first | exact Ext.refl _ _ | with_reducible refine Ext.alloc ?_ _ | with_reducible refine Ext.drewN ?_ _ | with_reducible refine Ext.drew ?_ | with_reducible refine Ext.setCell ?_ _ (by first | (simp; done) | (simp; omega)) _)) (by simp) (by simp)) Ht.out).mono ?_
  rintro e w2 ⟨rfl, h2, h3⟩
  have q0 : w2.cell? ⟨w.heap.size + 1, 0, none⟩ = some (.int .i64 0) := h2.keeps (by simp [go_sem]) (by simp; omega)
  have q1 : w2.cell? ⟨w.heap.size + 1, 1, none⟩ = some (.string ⟨#[]⟩) := h2.keeps (by simp [go_sem]) (by simp; omega)
  have q2 : w2.cell? ⟨w.heap.size, 0, none⟩ = some (.int .i64 0) := h2.keeps (by simp [go_sem]) (by simp; omega)
  have q3 : w2.cell? ⟨w.heap.size, 1, none⟩ = some (.string ⟨#[]⟩) := h2.keeps (by simp [go_sem]) (by simp; omega)
  have f2 : w2.frozen? ⟨w.heap.size, 0, none⟩ = false := (h2.frozen (p := ⟨w.heap.size, 0, none⟩) (by simp; omega) (by simp; omega)).trans (by simp [go_sem])
  have f3 : w2.frozen? ⟨w.heap.size, 1, none⟩ = false := (h2.frozen (p := ⟨w.heap.size, 1, none⟩) (by simp; omega) (by simp; omega)).trans (by simp [go_sem])
  have E := Lib.hid (Ext.trans (S := [r]) (a := w) (by repeat (first | exact Ext.refl _ _ | with_reducible refine Ext.alloc ?_ _ | with_reducible refine Ext.drewN ?_ _ | with_reducible refine Ext.drew ?_ | with_reducible refine Ext.setCell ?_ _ (by first | (simp; done) | (simp; omega)) _)) h2)
  go_wp2_with fail
  refine bodyPost_ret (v := .agg #[.int .i64 0, .string ⟨#[]⟩]) (by simp [results, Tryz.results80, go_sem, q2, q3, f2, f3]) rfl ⟨rfl, ?_, ?_⟩
  · exact (E.out.setCell _ (by simp) _).setCell _ (by simp) _
  · exact (h3.set_new ⟨w.heap.size, 0, none⟩ _ (by simp; omega) HA).set_new ⟨w.heap.size, 1, none⟩ _ (by simp; omega) HA
set_option maxRecDepth 100000 in
set_option maxHeartbeats 1000000 in
theorem rcol_sign (w : World) (r : Nat) (A : Option Addr) (cap : Nat) (T : List Tok) (size k at_ : Nat) (t : Tok) (h : RR w r A cap T size k 0 at_) (ht : T[k]? = some t) (hs : signT t.1 = true) :
    Calls Tryz.prog 80 #[.pointer (some ⟨r, 0, none⟩)] w fun x w' => x = .returned (.agg #[.int .i64 0, .string ⟨#[]⟩]) ∧ Ext [r] w w' ∧ RR w' r A cap T size k 61 t.2 := by
  obtain ⟨b, rfl, hbr, t0, t1, t2⟩ := h.tok t ht
  rw [hs] at t2
  have c0 := h.c0
  have c1 := h.c1
  have c3 := h.c3
  have hr := h.lt
  have hbl : b < w.heap.size := World.block_lt_of_cell? w _ t0
  have HA : T ≠ [] → ∀ b', some (⟨b, 0, none⟩ : Addr) = some ⟨b', 0, none⟩ → w.heap.size ≠ b' := by intro _ b' hb'; injection hb' with hb'; injection hb'; omega
  have hk := getElem?_lt ht
  have hki : (k : Int) < (T.length : Int) := by omega
  have hd : decide ((k : Int) < (T.length : Int)) = true := by simpa using hk
  have hsm := h.small
  have Ht := Lib.hid ht
  clear ht hs
  go_enter Tryz.func80, Tryz.ntmps80
  go_wp2
  go_quiet (fail)
  go_wp2_with fail
  refine (fail_word _ r _ cap T size k at_ 61 t (h.ext (S := []) (by repeat (first | exact Ext.refl _ _ | with_reducible refine Ext.alloc ?_ _ | with_reducible refine Ext.drewN ?_ _ | with_reducible refine Ext.drew ?_ | with_reducible refine Ext.setCell ?_ _ (by first | (simp; done) | (simp; omega)) _)) (by simp) (by simp)) Ht.out).mono ?_
  rintro e w2 ⟨rfl, h2, h3⟩
  have q0 : w2.cell? ⟨w.heap.size + 1, 0, none⟩ = some (.int .i64 0) := h2.keeps (by simp [go_sem]) (by simp; omega)
  have q1 : w2.cell? ⟨w.heap.size + 1, 1, none⟩ = some (.string ⟨#[]⟩) := h2.keeps (by simp [go_sem]) (by simp; omega)
  have q2 : w2.cell? ⟨w.heap.size, 0, none⟩ = some (.int .i64 0) := h2.keeps (by simp [go_sem]) (by simp; omega)
  have q3 : w2.cell? ⟨w.heap.size, 1, none⟩ = some (.string ⟨#[]⟩) := h2.keeps (by simp [go_sem]) (by simp; omega)
  have f2 : w2.frozen? ⟨w.heap.size, 0, none⟩ = false := (h2.frozen (p := ⟨w.heap.size, 0, none⟩) (by simp; omega) (by simp; omega)).trans (by simp [go_sem])
  have f3 : w2.frozen? ⟨w.heap.size, 1, none⟩ = false := (h2.frozen (p := ⟨w.heap.size, 1, none⟩) (by simp; omega) (by simp; omega)).trans (by simp [go_sem])
  have E := Lib.hid (Ext.trans (S := [r]) (a := w) (by repeat (first | exact Ext.refl _ _ | with_reducible refine Ext.alloc ?_ _ | with_reducible refine Ext.drewN ?_ _ | with_reducible refine Ext.drew ?_ | with_reducible refine Ext.setCell ?_ _ (by first | (simp; done) | (simp; omega)) _)) h2)
  go_wp2_with fail
  refine bodyPost_ret (v := .agg #[.int .i64 0, .string ⟨#[]⟩]) (by simp [results, Tryz.results80, go_sem, q2, q3, f2, f3]) rfl ⟨rfl, ?_, ?_⟩
  · exact (E.out.setCell _ (by simp) _).setCell _ (by simp) _
  · exact (h3.set_new ⟨w.heap.size, 0, none⟩ _ (by simp; omega) HA).set_new ⟨w.heap.size, 1, none⟩ _ (by simp; omega) HA
set_option maxRecDepth 100000 in
set_option maxHeartbeats 1000000 in
theorem rcol_end (w : World) (r : Nat) (A : Option Addr) (cap : Nat) (T : List Tok) (size k at_ : Nat) (h : RR w r A cap T size k 0 at_) (hk : k = T.length) :
    Calls Tryz.prog 80 #[.pointer (some ⟨r, 0, none⟩)] w fun x w' => x = .returned (.agg #[.int .i64 0, .string ⟨#[]⟩]) ∧ Ext [r] w w' ∧ RR w' r A cap T size k 61 size := by
  subst hk
  have c0 := h.c0
  have c1 := h.c1
  have c3 := h.c3
  have hr := h.lt
  have HA : T ≠ [] → ∀ b, A = some ⟨b, 0, none⟩ → w.heap.size ≠ b := fun hne b hb => by have := h.lt2 hne b hb; omega
  go_enter Tryz.func80, Tryz.ntmps80
  go_wp2
  go_quiet (fail)
  go_wp2_with fail
  refine (fail_end _ r A cap T size _ at_ 61 (h.ext (S := []) (by repeat (first | exact Ext.refl _ _ | with_reducible refine Ext.alloc ?_ _ | with_reducible refine Ext.drewN ?_ _ | with_reducible refine Ext.drew ?_ | with_reducible refine Ext.setCell ?_ _ (by first | (simp; done) | (simp; omega)) _)) (by simp) (by simp)) rfl).mono ?_
  rintro e w2 ⟨rfl, h2, h3⟩
  have q0 : w2.cell? ⟨w.heap.size + 1, 0, none⟩ = some (.int .i64 0) := h2.keeps (by simp [go_sem]) (by simp; omega)
  have q1 : w2.cell? ⟨w.heap.size + 1, 1, none⟩ = some (.string ⟨#[]⟩) := h2.keeps (by simp [go_sem]) (by simp; omega)
  have q2 : w2.cell? ⟨w.heap.size, 0, none⟩ = some (.int .i64 0) := h2.keeps (by simp [go_sem]) (by simp; omega)
  have q3 : w2.cell? ⟨w.heap.size, 1, none⟩ = some (.string ⟨#[]⟩) := h2.keeps (by simp [go_sem]) (by simp; omega)
  have f2 : w2.frozen? ⟨w.heap.size, 0, none⟩ = false := (h2.frozen (p := ⟨w.heap.size, 0, none⟩) (by simp; omega) (by simp; omega)).trans (by simp [go_sem])
  have f3 : w2.frozen? ⟨w.heap.size, 1, none⟩ = false := (h2.frozen (p := ⟨w.heap.size, 1, none⟩) (by simp; omega) (by simp; omega)).trans (by simp [go_sem])
  have E := Lib.hid (Ext.trans (S := [r]) (a := w) (by repeat (first | exact Ext.refl _ _ | with_reducible refine Ext.alloc ?_ _ | with_reducible refine Ext.drewN ?_ _ | with_reducible refine Ext.drew ?_ | with_reducible refine Ext.setCell ?_ _ (by first | (simp; done) | (simp; omega)) _)) h2)
  go_wp2_with fail
  refine bodyPost_ret (v := .agg #[.int .i64 0, .string ⟨#[]⟩]) (by simp [results, Tryz.results80, go_sem, q2, q3, f2, f3]) rfl ⟨rfl, ?_, ?_⟩
  · exact (E.out.setCell _ (by simp) _).setCell _ (by simp) _
  · exact (h3.set_new ⟨w.heap.size, 0, none⟩ _ (by simp; omega) HA).set_new ⟨w.heap.size, 1, none⟩ _ (by simp; omega) HA
end Go.Proofs.YtkpholfdjgdjnaaGreatDoor
