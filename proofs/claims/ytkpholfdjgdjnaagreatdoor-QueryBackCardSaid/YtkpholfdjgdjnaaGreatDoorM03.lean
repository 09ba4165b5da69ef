/- Texts of the claim, joined: R4 R5 R6. -/
import Derived.Test.YtkpholfdjgdjnaaGreatDoorM02
namespace Go.Proofs.YtkpholfdjgdjnaaGreatDoor
open Go Go.RowKit Go.Proofs
theorem rname_is (s : ByteArray) (w : World) (hs : s.size ≤ 4096) (b : Bool) (hb : nameOk s = b) :
    Calls Tryz.prog 87 #[.string s] w fun e w' => e = .returned (.bool b) ∧ w = w' := by
  subst hb
  exact rname_calls s w (by omega)
theorem absW {K : Act → World → Prop} {Q : Exit → Act → World → Prop} {e : Exit} {a : Act} {W : World} (h : ∀ W', W' = W → Exit.then K Q e a W') : Exit.then K Q e a W := h W rfl
theorem absC {P : Program} {f : FuncId} {args : Array Value} {W : World} {R : Ending → World → Prop} (h : ∀ W', W' = W → Calls P f args W' R) : Calls P f args W R := h W rfl
def RColPost (w : World) (r : Nat) (A : Option Addr) (cap : Nat) (T : List Tok) (size k : Nat) (x : Ending) (w' : World) : Prop :=
  ∃ c k' err' at', x = .returned (colA c) ∧ RDone w r A cap T size (pCol size (T.drop k)) k' err' at' w' ∧ ∀ c' L, pCol size (T.drop k) = .ok (c', L) → c = c'
structure Own2 (s : Nat) (W : World) (n : Int) (nm : ByteArray) : Prop where
  c0 : W.cell? ⟨s + 1, 0, none⟩ = some (.int .i64 n)
  c1 : W.cell? ⟨s + 1, 1, none⟩ = some (.string nm)
  d0 : W.cell? ⟨s, 0, none⟩ = some (.int .i64 0)
  d1 : W.cell? ⟨s, 1, none⟩ = some (.string ⟨#[]⟩)
  f0 : W.frozen? ⟨s, 0, none⟩ = false
  f1 : W.frozen? ⟨s, 1, none⟩ = false
  f2 : W.frozen? ⟨s + 1, 1, none⟩ = false
theorem Own2.ext {s : Nat} {W W' : World} {n : Int} {nm : ByteArray} {S : List Nat} (h : Own2 s W n nm) (e : Ext S W W') (hs : ∀ x ∈ S, x < s) : Own2 s W' n nm := by
  have n0 : s ∉ S := fun hx => Nat.lt_irrefl _ (hs _ hx)
  have n1 : s + 1 ∉ S := fun hx => by have := hs _ hx; omega
  have l0 : s < W.heap.size := World.block_lt_of_cell? W _ h.d0
  have l1 : s + 1 < W.heap.size := World.block_lt_of_cell? W _ h.c0
  exact ⟨e.keeps h.c0 n1, e.keeps h.c1 n1, e.keeps h.d0 n0, e.keeps h.d1 n0, (e.frozen l0 n0).trans h.f0, (e.frozen l0 n0).trans h.f1, (e.frozen l1 n1).trans h.f2⟩
theorem RColPost.bad {w W : World} {r : Nat} {A : Option Addr} {cap : Nat} {T : List Tok} {size k k' err at' : Nat} (c : ColZ) (E : Ext [r] w W) (h : RR W r A cap T size k' err at') (he : err ≠ 0) (hp : pCol size (T.drop k) = .error (at', err)) (hr : r < w.heap.size) (HA : T ≠ [] → ∀ b, A = some ⟨b, 0, none⟩ → w.heap.size ≠ b) (u v : Value) :
    RColPost w r A cap T size k (.returned (colA c)) ((W.setCell ⟨w.heap.size, 0, none⟩ u).setCell ⟨w.heap.size, 1, none⟩ v) := by
  refine ⟨c, k', err, at', rfl, ?_, ?_⟩
  · rw [hp]
    exact ⟨(E.setCell _ (by simp) _).setCell _ (by simp) _, (h.set_new ⟨w.heap.size, 0, none⟩ _ (by simp; omega) HA).set_new ⟨w.heap.size, 1, none⟩ _ (by simp; omega) HA, rfl, he, rfl⟩
  · rw [hp]
    intro c' L hc
    cases hc
theorem RColPost.good {w W : World} {r : Nat} {A : Option Addr} {cap : Nat} {T : List Tok} {size k k' at' : Nat} (c : ColZ) (E : Ext [r] w W) (h : RR W r A cap T size k' 0 at') (hp : pCol size (T.drop k) = .ok (c, T.drop k')) (hr : r < w.heap.size) (HA : T ≠ [] → ∀ b, A = some ⟨b, 0, none⟩ → w.heap.size ≠ b) (u v : Value) :
    RColPost w r A cap T size k (.returned (colA c)) ((W.setCell ⟨w.heap.size, 0, none⟩ u).setCell ⟨w.heap.size, 1, none⟩ v) := by
  refine ⟨c, k', 0, at', rfl, ?_, ?_⟩
  · rw [hp]
    exact ⟨(E.setCell _ (by simp) _).setCell _ (by simp) _, (h.set_new ⟨w.heap.size, 0, none⟩ _ (by simp; omega) HA).set_new ⟨w.heap.size, 1, none⟩ _ (by simp; omega) HA, rfl, rfl⟩
  · rw [hp]
    intro c' L hc
    cases hc
    rfl
set_option maxRecDepth 100000 in
set_option maxHeartbeats 2000000 in
theorem rcol_col (w : World) (r : Nat) (A : Option Addr) (cap : Nat) (T : List Tok) (size k at_ : Nat) (t : Tok) (h : RR w r A cap T size k 0 at_) (ht : T[k]? = some t) (hs : signT t.1 = false) (hsz : ∀ t ∈ T, t.1.size ≤ 4096) (n : Nat) (h0 : idx colW t.1 = n) (hn1 : 1 ≤ n) (hn10 : n < 10) :
    Calls Tryz.prog 80 #[.pointer (some ⟨r, 0, none⟩)] w (RColPost w r A cap T size k) := by
  obtain ⟨b, rfl, hbr, t0, t1, t2⟩ := h.tok t ht
  rw [hs] at t2
  have c0 := h.c0
  have c1 := h.c1
  have c3 := h.c3
  have hr := h.lt
  have hbl : b < w.heap.size := World.block_lt_of_cell? w _ t0
  have HA : T ≠ [] → ∀ b', some (⟨b, 0, none⟩ : Addr) = some ⟨b', 0, none⟩ → w.heap.size ≠ b' := by intro _ b' hb'; injection hb' with hb'; injection hb'; omega
  have hk := getElem?_lt ht
  have hki : (k : Int) < (T.length : Int) := by omega
  have hd : decide ((k : Int) < (T.length : Int)) = true := by simpa using hk
  have hsm := h.small
  have Ht := Lib.hid ht
  have H0 := Lib.hid h0
  clear ht hs h0
  have f1 := h.blk.frozen 1
  have hn3 : ((n : Int) == 0) = false := by simp; omega
  go_enter Tryz.func80, Tryz.ntmps80
  go_wp2
  go_quiet (fail)
  go_wp2_with fail
  go_region_held3 (fun w' => w'.cell? ⟨r, 0, none⟩ = some (.slice (some ⟨b, 0, none⟩) T.length cap) ∧ w'.cell? ⟨r, 1, none⟩ = some (.int .i64 k) ∧ w'.cell? ⟨b, k * 3, none⟩ = some (.string t.1)) (first | (refine ⟨Ext.keeps (S := []) ?_ c0 (by simp), Ext.keeps (S := []) ?_ c1 (by simp), Ext.keeps (S := []) ?_ t0 (by simp)⟩ <;> (repeat (first | exact Ext.refl _ _ | with_reducible refine Ext.alloc ?_ _ | with_reducible refine Ext.drewN ?_ _ | with_reducible refine Ext.drew ?_ | with_reducible refine Ext.setCell ?_ _ (by simp) _))) | go_keep)
    (first
      | (go_at_call 91; refine (colWords_calls _).mono ?_; rintro e w' ⟨rfl, rfl⟩)
      | (go_at_call 131; refine (place_is _ colW t.1 _ 10 n rfl (by omega) (by omega) ?_ H0.out).mono ?_; (exact tab_cells _ colW 9 10 _ (by simp [World.drewN]) rfl); rintro e w' ⟨rfl, rfl⟩))
  refine absW ?_
  intro W hW
  have E : Ext [] w W := by rw [hW]; repeat (first | exact Ext.refl _ _ | with_reducible refine Ext.alloc ?_ _ | with_reducible refine Ext.drewN ?_ _ | with_reducible refine Ext.drew ?_ | with_reducible refine Ext.setCell ?_ _ (by first | (simp; done) | (simp; omega)) _)
  have RW := h.ext (S := []) E (by simp) (by simp)
  have O : Own2 w.heap.size W n ⟨#[]⟩ := ⟨by rw [hW]; simp [go_sem], by rw [hW]; simp [go_sem], by rw [hW]; simp [go_sem], by rw [hW]; simp [go_sem], by rw [hW]; simp [go_sem], by rw [hW]; simp [go_sem], by rw [hW]; simp [go_sem]⟩
  obtain ⟨q0, q1, q2, q3, f0, f2, f3⟩ := O
  have hz := E.size
  clear hW c0 c1 c3 f1 t0 t1 t2
  have c1 := RW.c1
  have f1 := RW.blk.frozen 1
  have HO : Hid (opOf (T.drop k) = n) := by unfold Hid opOf; rw [List.drop_eq_getElem_cons hk, ← H0.out]; have := List.getElem?_eq_getElem hk; rw [Ht.out] at this; injection this with this; rw [this]
  have HT : Hid ((T.drop k).tail = T.drop (k + 1)) := by unfold Hid; rw [List.tail_drop]
  by_cases hn6 : n < 6
  · have HP : Hid (pCol size (T.drop k) = .ok (⟨n, ⟨#[]⟩⟩, T.drop (k + 1))) := by unfold Hid pCol; rw [HO.out, if_neg (by omega), if_pos hn6, HT.out]
    go_wp2_with fail
    refine bodyPost_ret (v := .agg #[.int .i64 n, .string ⟨#[]⟩]) (by simp [results, Tryz.results80, go_sem, q2, q3, f0, f2]) rfl ?_
    exact RColPost.good ⟨n, ⟨#[]⟩⟩ (E.nil.trans (RW.adv hk).1) (RW.adv hk).2 HP.out hr HA _ _
  · go_wp2_with fail
    have RW1 := (RW.adv hk).2
    have E1 := E.nil.trans (RW.adv hk).1
    have O1 : Own2 w.heap.size (W.setCell ⟨r, 1, none⟩ (.int .i64 ((k : Int) + 1))) n ⟨#[]⟩ := Own2.ext (S := [r]) ⟨q0, q1, q2, q3, f0, f2, f3⟩ (RW.adv hk).1 (by simpa using hr)
    clear q0 q1 q2 q3 f0 f2 f3 c1 f1
    rcases hp : pHas sLpar (T.drop (k + 1)) with _ | _
    · have HP : Hid (pCol size (T.drop k) = .error (atOf size (T.drop (k + 1)), 61)) := by
        unfold Hid pCol; rw [HO.out, if_neg (by omega), if_neg hn6, HT.out]; unfold pWant; rw [hp]; rfl
      refine (want_no _ r _ cap T size (k + 1) at_ sLpar true RW1 (by decide) hp).mono ?_
      rintro e w3 ⟨rfl, h3, R3⟩
      have O3 := O1.ext h3 (by simpa using hr)
      have E3 := Lib.hid (E1.trans h3)
      have c3 := R3.c3
      obtain ⟨q0, q1, q2, q3, f0, f2, f3⟩ := O3
      clear RW1 E1 O1 h3 hp
      go_wp2_with fail
      go_quiet (fail)
      go_wp2_with (first
        | (go_at_call 35; refine (fail_old _ r _ cap T size (k + 1) 61 _ 45 (R3.keep ((Ext.refl [] _).drewN _)) (by omega)).mono ?_; rintro e w2 ⟨rfl, rfl⟩)
        | (go_at_call 132; refine (want_old _ r _ cap T size (k + 1) 61 _ sRpar true (R3.keep ((Ext.refl [] _).drewN _)) (by omega)).mono ?_; rintro e w4 ⟨rfl, h4⟩; have O4 := Own2.ext (S := []) ⟨q0, q1, q2, q3, f0, f2, f3⟩ (((Ext.refl [] w3).drewN _).trans h4) (by simp); clear q0 q1 q2 q3 f0 f2 f3; obtain ⟨q0, q1, q2, q3, f0, f2, f3⟩ := O4))
      refine bodyPost_ret (v := .agg #[.int .i64 n, .string ⟨#[]⟩]) (by simp [results, Tryz.results80, go_sem, q2, q3, f0, f2]) rfl ?_
      exact RColPost.bad ⟨n, ⟨#[]⟩⟩ (E3.out.trans (((Ext.refl [] w3).drewN _).trans h4).nil) (R3.keep (((Ext.refl [] w3).drewN _).trans h4)) (by omega) HP.out hr HA _ _
    · have hk1 : k + 1 < T.length := by
        rcases Nat.lt_or_ge (k + 1) T.length with h1 | h1
        · exact h1
        · rw [List.drop_of_length_le h1] at hp
          cases hp
      have HW : Hid (pWant size sLpar (T.drop (k + 1)) = .ok ((), T.drop (k + 2))) := by unfold Hid pWant; rw [if_pos hp, List.tail_drop]
      refine (want_yes _ r _ cap T size (k + 1) at_ sLpar true RW1 (by decide) hp).mono ?_
      rintro e w3 ⟨rfl, h3, R3⟩
      replace R3 : RR w3 r (some ⟨b, 0, none⟩) cap T size (k + 2) 0 at_ := R3
      have O3 := O1.ext h3 (by simpa using hr)
      have E3 := Lib.hid (E1.trans h3)
      have c0 := R3.c0
      have c1 := R3.c1
      have c3 := R3.c3
      have f1 := R3.blk.frozen 1
      have ⟨q0, q1, q2, q3, f0, f2, f3⟩ := O3
      clear RW1 E1 O1 h3 hp
      rcases Nat.lt_or_ge (k + 2) T.length with hk2 | hk2
      · obtain ⟨t2, ht2⟩ : ∃ t2, T[k + 2]? = some t2 := ⟨_, List.getElem?_eq_getElem hk2⟩
        have hsz2 := hsz t2 (List.mem_of_getElem? ht2)
        have hdrop : T.drop (k + 2) = t2 :: T.drop (k + 3) := by
          have := List.getElem?_eq_getElem hk2
          rw [ht2] at this
          injection this with this
          rw [List.drop_eq_getElem_cons hk2, this]
        obtain ⟨b2, hb2, hbr2, u0, u1, u2⟩ := R3.tok t2 ht2
        obtain rfl : b = b2 := by injection hb2 with h1; injection h1
        have Ht2 := Lib.hid ht2
        have hd2 : decide (((k : Int) + 2) < (T.length : Int)) = true := by simp; omega
        have hki2 : ((k : Int) + 2) < (T.length : Int) := by omega
        have hki3 : (0 : Int) ≤ (k : Int) + 2 := by omega
        have hki4 : ((k : Int) + 2).toNat = k + 2 := by omega
        clear ht2 hb2
        rcases hs2 : signT t2.1 with _ | _
        · rw [hs2] at u2
          rcases hn2 : nameOk t2.1 with _ | _
          · have HP : Hid (pCol size (T.drop k) = .error (t2.2, 45)) := by
              unfold Hid pCol; rw [HO.out, if_neg (by omega), if_neg hn6, HT.out, HW.out]; simp only; rw [hdrop]; unfold pName; simp only; rw [hn2]; rfl
            have Hn2 := Lib.hid hn2
            clear hs2 hn2 hdrop
            go_wp2_with fail
            go_quiet ((go_at_call 87; exact quietL0 (rname_is t2.1 _ hsz2 false Hn2.out)))
            go_wp2_with (first
              | (go_at_call 35; refine (fail_word _ r _ cap T size (k + 2) at_ 45 t2 (R3.keep ((Ext.refl [] _).drewN _)) Ht2.out).mono ?_; rintro e w5 ⟨rfl, h5, R5⟩; have O5 := (O3.ext ((Ext.refl [] w3).drewN _) (by simp)).ext h5 (by simpa using hr); clear q0 q1 q2 q3 f0 f2 f3)
              | (go_at_call 132; refine (want_old _ r _ cap T size (k + 2) 45 _ sRpar true R5 (by omega)).mono ?_; rintro e w4 ⟨rfl, h4⟩; have O4 := O5.ext h4 (by simp); obtain ⟨q0, q1, q2, q3, f0, f2, f3⟩ := O4))
            refine bodyPost_ret (v := .agg #[.int .i64 n, .string ⟨#[]⟩]) (by simp [results, Tryz.results80, go_sem, q2, q3, f0, f2]) rfl ?_
            exact RColPost.bad ⟨n, ⟨#[]⟩⟩ (E3.out.trans ((((Ext.refl [] w3).drewN _).nil.trans h5).trans h4.nil)) (R5.keep h4) (by omega) HP.out hr HA _ _
          · have Hn2 := Lib.hid hn2
            have HN : Hid (pName size (T.drop (k + 2)) = .ok (t2.1, T.drop (k + 3))) := by unfold Hid; rw [hdrop]; unfold pName; simp only; rw [if_pos hn2]
            clear hs2 hn2 hdrop
            go_wp2_with fail
            go_quiet ((go_at_call 87; exact quietL0 (rname_is t2.1 _ hsz2 true Hn2.out)))
            go_wp2_with fail
            refine wp_region_still_tail 12 (by kernel_rfl) (by kernel_rfl) ?_
            simp only [World.drew_eq]
            simp only [List.take_succ_cons, List.take_zero, List.drop_succ_cons, List.drop_zero]
            repeat still_step
            refine wpStill_nil ?_
            go_wp2_with fail
            refine absC ?_
            intro W4 hW4
            have hrs : ¬ r = w.heap.size := by omega
            have hrs1 : ¬ r = w.heap.size + 1 := by omega
            have hsr : ¬ w.heap.size = r := by omega
            have hsr1 : ¬ w.heap.size + 1 = r := by omega
            rw [show ((k : Int) + 2 + 1) = ((k + 2 : Nat) : Int) + 1 by omega] at hW4
            have E4 : Ext [r] w W4 := by rw [hW4]; exact ((E3.out.drewN _).setCell ⟨w.heap.size + 1, 1, none⟩ (by simp) _).setCell ⟨r, 1, none⟩ (by simp) _
            have R4 : RR W4 r (some ⟨b, 0, none⟩) cap T size (k + 2 + 1) 0 at_ := by
              rw [hW4]
              exact (((R3.keep ((Ext.refl [] _).drewN (nq + 1))).set_new ⟨w.heap.size + 1, 1, none⟩ (.string t2.1) (by simp; omega) (by intro _ b' hb'; injection hb' with hb'; injection hb'; simp; omega)).adv hk2).2
            have O4 : Own2 w.heap.size W4 n t2.1 := by
              rw [hW4]
              constructor <;> simp [go_sem, q0, q1, q2, q3, f0, f2, f3, hrs, hrs1, hsr, hsr1]
            clear hW4 q0 q1 q2 q3 f0 f2 f3 c0 c1 c3 f1 u0 u1 u2 R3
            rcases hp : pHas sRpar (T.drop (k + 3)) with _ | _
            · have HP : Hid (pCol size (T.drop k) = .error (atOf size (T.drop (k + 3)), 61)) := by
                unfold Hid pCol; rw [HO.out, if_neg (by omega), if_neg hn6, HT.out, HW.out]; simp only; rw [HN.out]; simp only; unfold pWant; rw [hp]; rfl
              refine (want_no _ r _ cap T size (k + 3) at_ sRpar true R4 (by decide) hp).mono ?_
              rintro e w5 ⟨rfl, h5, R5⟩
              have O5 := O4.ext h5 (by simpa using hr)
              obtain ⟨q0, q1, q2, q3, f0, f2, f3⟩ := O5
              go_wp2_with fail
              refine bodyPost_ret (v := .agg #[.int .i64 n, .string t2.1]) (by simp [results, Tryz.results80, go_sem, q2, q3, f0, f2]) rfl ?_
              exact RColPost.bad ⟨n, t2.1⟩ (E4.trans h5) R5 (by omega) HP.out hr HA _ _
            · have HP : Hid (pCol size (T.drop k) = .ok (⟨n, t2.1⟩, T.drop (k + 4))) := by
                unfold Hid pCol; rw [HO.out, if_neg (by omega), if_neg hn6, HT.out, HW.out]; simp only; rw [HN.out]; simp only; unfold pWant; rw [if_pos hp, List.tail_drop]
              refine (want_yes _ r _ cap T size (k + 3) at_ sRpar true R4 (by decide) hp).mono ?_
              rintro e w5 ⟨rfl, h5, R5⟩
              have O5 := O4.ext h5 (by simpa using hr)
              obtain ⟨q0, q1, q2, q3, f0, f2, f3⟩ := O5
              go_wp2_with fail
              refine bodyPost_ret (v := .agg #[.int .i64 n, .string t2.1]) (by simp [results, Tryz.results80, go_sem, q2, q3, f0, f2]) rfl ?_
              exact RColPost.good ⟨n, t2.1⟩ (E4.trans h5) R5 HP.out hr HA _ _
        · rw [hs2] at u2
          have HP : Hid (pCol size (T.drop k) = .error (t2.2, 45)) := by
            have hn2 : nameOk t2.1 = false := by
              rcases hq : nameOk t2.1 with _ | _
              · rfl
              · rw [nameOk_word hq] at hs2; cases hs2
            unfold Hid pCol; rw [HO.out, if_neg (by omega), if_neg hn6, HT.out, HW.out]; simp only; rw [hdrop]; unfold pName; simp only; rw [hn2]; rfl
          clear hs2 hdrop
          go_wp2_with fail
          go_quiet (fail)
          go_wp2_with (first
            | (go_at_call 35; refine (fail_word _ r _ cap T size (k + 2) at_ 45 t2 (R3.keep ((Ext.refl [] _).drewN _)) Ht2.out).mono ?_; rintro e w5 ⟨rfl, h5, R5⟩; have O5 := (O3.ext ((Ext.refl [] w3).drewN _) (by simp)).ext h5 (by simpa using hr); clear q0 q1 q2 q3 f0 f2 f3)
            | (go_at_call 132; refine (want_old _ r _ cap T size (k + 2) 45 _ sRpar true R5 (by omega)).mono ?_; rintro e w4 ⟨rfl, h4⟩; have O4 := O5.ext h4 (by simp); obtain ⟨q0, q1, q2, q3, f0, f2, f3⟩ := O4))
          refine bodyPost_ret (v := .agg #[.int .i64 n, .string ⟨#[]⟩]) (by simp [results, Tryz.results80, go_sem, q2, q3, f0, f2]) rfl ?_
          exact RColPost.bad ⟨n, ⟨#[]⟩⟩ (E3.out.trans ((((Ext.refl [] w3).drewN _).nil.trans h5).trans h4.nil)) (R5.keep h4) (by omega) HP.out hr HA _ _
      · have HP : Hid (pCol size (T.drop k) = .error (size, 45)) := by
          unfold Hid pCol; rw [HO.out, if_neg (by omega), if_neg hn6, HT.out, HW.out]; simp only; rw [List.drop_of_length_le hk2]; rfl
        have hd2 : decide (((k : Int) + 2) < (T.length : Int)) = false := by simp; omega
        go_wp2_with fail
        go_quiet (fail)
        go_wp2_with (first
          | (go_at_call 35; refine (fail_end _ r _ cap T size (k + 2) at_ 45 (R3.keep ((Ext.refl [] _).drewN _)) (by omega)).mono ?_; rintro e w5 ⟨rfl, h5, R5⟩; have O5 := (O3.ext ((Ext.refl [] w3).drewN _) (by simp)).ext h5 (by simpa using hr); clear q0 q1 q2 q3 f0 f2 f3)
          | (go_at_call 132; refine (want_old _ r _ cap T size (k + 2) 45 _ sRpar true R5 (by omega)).mono ?_; rintro e w4 ⟨rfl, h4⟩; have O4 := O5.ext h4 (by simp); obtain ⟨q0, q1, q2, q3, f0, f2, f3⟩ := O4))
        refine bodyPost_ret (v := .agg #[.int .i64 n, .string ⟨#[]⟩]) (by simp [results, Tryz.results80, go_sem, q2, q3, f0, f2]) rfl ?_
        exact RColPost.bad ⟨n, ⟨#[]⟩⟩ (E3.out.trans ((((Ext.refl [] w3).drewN _).nil.trans h5).trans h4.nil)) (R5.keep h4) (by omega) HP.out hr HA _ _
end Go.Proofs.YtkpholfdjgdjnaaGreatDoor
namespace Go.Proofs.YtkpholfdjgdjnaaGreatDoor
open Go Go.RowKit Go.Proofs
theorem opOf_at {T : List Tok} {k : Nat} (hk : k < T.length) : opOf (T.drop k) = idx colW T[k].1 := by
  unfold opOf
  rw [List.drop_eq_getElem_cons hk]
theorem RColPost.fail {w w' : World} {r : Nat} {A : Option Addr} {cap : Nat} {T : List Tok} {size k : Nat} {a : Nat} {x : Ending} (hp : pCol size (T.drop k) = .error (a, 61))
    (h : x = .returned (.agg #[.int .i64 0, .string ⟨#[]⟩]) ∧ Ext [r] w w' ∧ RR w' r A cap T size k 61 a) : RColPost w r A cap T size k x w' := by
  obtain ⟨h1, h2, h3⟩ := h
  refine ⟨⟨0, ⟨#[]⟩⟩, k, 61, a, h1, ?_, ?_⟩
  · rw [hp]
    exact ⟨h2, h3, rfl, by omega, rfl⟩
  · rw [hp]
    intro c' L hc
    cases hc
theorem rcol_calls (w : World) (r : Nat) (A : Option Addr) (cap : Nat) (T : List Tok) (size k at_ : Nat) (h : RR w r A cap T size k 0 at_) (hsz : ∀ t ∈ T, t.1.size ≤ 4096) :
    Calls Tryz.prog 80 #[.pointer (some ⟨r, 0, none⟩)] w (RColPost w r A cap T size k) := by
  rcases Nat.lt_or_ge k T.length with hk | hk
  · have ht : T[k]? = some T[k] := List.getElem?_eq_getElem hk
    have hd := List.drop_eq_getElem_cons hk
    rcases hs : signT T[k].1 with _ | _
    · by_cases h0 : idx colW T[k].1 = 0
      · have hp : pCol size (T.drop k) = .error (T[k].2, 61) := by unfold pCol; rw [opOf_at hk, if_pos h0, hd]; rfl
        exact (rcol_zero w r A cap T size k at_ _ h ht hs h0).mono fun x w' hx => RColPost.fail hp hx
      · have hlt := idxFrom_lt colW T[k].1 1
        have h10 : colW.length = 10 := rfl
        exact rcol_col w r A cap T size k at_ _ h ht hs hsz (idx colW T[k].1) rfl (by omega) (by unfold idx at *; omega)
    · have h0 : idx colW T[k].1 = 0 := by
        rcases Nat.eq_zero_or_pos (idx colW T[k].1) with h1 | h1
        · exact h1
        · rw [col_word (by omega)] at hs
          cases hs
      have hp : pCol size (T.drop k) = .error (T[k].2, 61) := by unfold pCol; rw [opOf_at hk, if_pos h0, hd]; rfl
      exact (rcol_sign w r A cap T size k at_ _ h ht hs).mono fun x w' hx => RColPost.fail hp hx
  · have hp : pCol size (T.drop k) = .error (size, 61) := by rw [List.drop_of_length_le hk]; rfl
    exact (rcol_end w r A cap T size k at_ h (by have := h.le; omega)).mono fun x w' hx => RColPost.fail hp hx
end Go.Proofs.YtkpholfdjgdjnaaGreatDoor
namespace Go.Proofs.YtkpholfdjgdjnaaGreatDoor
open Go Go.RowKit Go.Proofs
theorem Tryz.info57 : (Tryz.prog.info? 57).map (fun i => (i.zero, i.size, i.bytes)) = some (some (.agg #[.int .i64 0, .string ⟨#[]⟩]), 2, 24) := by kernel_rfl
def colV (c : ColZ) : List Value := [.int .i64 c.op, .string c.name]
def colsV (l : List ColZ) : List Value := l.flatMap colV
theorem colsV_snoc (l : List ColZ) (c : ColZ) : colsV (l ++ [c]) = colsV l ++ colV c := by simp [colsV]
theorem colsV_length (l : List ColZ) : (colsV l).length = l.length * 2 := by
  induction l with
  | nil => rfl
  | cons t T ih => simp only [colsV, List.flatMap_cons, List.length_append, List.length_cons] at *; simp [colV, ih]; omega
theorem drop_len {T L : List Tok} {k : Nat} (h : T.drop k = L) (hk : k ≤ T.length) : T.length = k + L.length := by
  rw [← h, List.length_drop]; omega
def RRowPost {α : Type} (e sz : Nat) (enc : List α → List Value) (res : Res (List α)) (w : World) (r : Nat) (A : Option Addr) (cap : Nat) (T : List Tok) (size : Nat) (x : Ending) (w' : World) : Prop :=
  ∃ v l k' err' at', x = .returned v ∧ w'.ownsRow w.heap.size e sz v l.length (enc l) ∧ RDone w r A cap T size res k' err' at' w' ∧ ∀ l' L, res = .ok (l', L) → l = l'
structure RowRel {α : Type} (e sz : Nat) (enc : List α → List Value) (one : List Tok → Res α) (s : ByteArray) (res : Res (List α)) (w : World) (r : Nat) (A : Option Addr) (cap : Nat) (T : List Tok) (size : Nat) (g : Nat) (v : Value) (l : List α) (k err at_ : Nat) (wr : World) : Prop where
  row : wr.ownsRow w.heap.size e sz v l.length (enc l)
  ext : Ext [r] w wr
  rr : RR wr r A cap T size k err at_
  st : (err = 0 ∧ 1 ≤ l.length ∧ l.length ≤ 16 ∧ res = pMore size one s (16 - l.length) l (T.drop k) ∧ T.length + 1 - k ≤ g) ∨ (err ≠ 0 ∧ l.length ≤ 17 ∧ res = .error (at_, err))
theorem RowRel.done_err {α : Type} {e sz : Nat} {enc : List α → List Value} {one : List Tok → Res α} {s : ByteArray} {res : Res (List α)} {w : World} {r : Nat} {A : Option Addr} {cap : Nat} {T : List Tok} {size g : Nat} {v : Value} {l : List α} {k err at_ : Nat} {wr w1 : World}
    (h : RowRel e sz enc one s res w r A cap T size g v l k err at_ wr) (he : err ≠ 0) (hr : r < w.heap.size) (h1 : Ext [] wr w1) : RRowPost e sz enc res w r A cap T size (.returned v) w1 := by
  rcases h.st with ⟨h0, _⟩ | ⟨_, _, hres⟩
  · exact absurd h0 he
  · refine ⟨v, l, k, err, at_, rfl, ownsRow_ext h.row h1 (by simp), ?_, ?_⟩
    · rw [hres]
      exact ⟨h.ext.trans h1.nil, h.rr.keep h1, rfl, he, rfl⟩
    · rw [hres]
      intro l' L hc
      cases hc
theorem pMore_no {α : Type} {size : Nat} {one : List Tok → Res α} {s : ByteArray} {n : Nat} {l : List α} {L : List Tok} (h : pHas s L = false) : pMore size one s n l L = .ok (l, L) := by
  cases n <;> (unfold pMore; rw [h]; rfl)
theorem pMore_full {α : Type} {size : Nat} {one : List Tok → Res α} {s : ByteArray} {l : List α} {L : List Tok} (h : pHas s L = true) : pMore size one s 0 l L = .error (atOf size L.tail, 30) := by
  unfold pMore; rw [if_pos h]
theorem pMore_bad {α : Type} {size : Nat} {one : List Tok → Res α} {s : ByteArray} {n : Nat} {l : List α} {L : List Tok} {e : Nat × Nat} (h : pHas s L = true) (h1 : one L.tail = .error e) : pMore size one s (n + 1) l L = .error e := by
  unfold pMore; rw [if_pos h, h1]
theorem pMore_good {α : Type} {size : Nat} {one : List Tok → Res α} {s : ByteArray} {n : Nat} {l : List α} {L L' : List Tok} {a : α} (h : pHas s L = true) (h1 : one L.tail = .ok (a, L')) : pMore size one s (n + 1) l L = pMore size one s n (l ++ [a]) L' := by
  conv => lhs; unfold pMore
  rw [if_pos h, h1]
theorem RowRel.done_ok {α : Type} {e sz : Nat} {enc : List α → List Value} {one : List Tok → Res α} {s : ByteArray} {res : Res (List α)} {w : World} {r : Nat} {A : Option Addr} {cap : Nat} {T : List Tok} {size g : Nat} {v : Value} {l : List α} {k at_ : Nat} {wr w1 : World}
    (h : RowRel e sz enc one s res w r A cap T size g v l k 0 at_ wr) (hp : pHas s (T.drop k) = false) (hr : r < w.heap.size) (h1 : Ext [] wr w1) : RRowPost e sz enc res w r A cap T size (.returned v) w1 := by
  rcases h.st with ⟨_, h2, h3, hres, _⟩ | ⟨h0, _⟩
  · rw [pMore_no hp] at hres
    refine ⟨v, l, k, 0, at_, rfl, ownsRow_ext h.row h1 (by simp), ?_, ?_⟩
    · rw [hres]
      exact ⟨h.ext.trans h1.nil, h.rr.keep h1, rfl, rfl⟩
    · rw [hres]
      intro l' L hc
      cases hc
      rfl
  · exact absurd rfl h0
end Go.Proofs.YtkpholfdjgdjnaaGreatDoor
