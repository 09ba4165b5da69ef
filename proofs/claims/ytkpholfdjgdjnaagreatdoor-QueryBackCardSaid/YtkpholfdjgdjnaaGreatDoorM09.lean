/- Texts of the claim, joined: T0 T1 T2 T3. -/
import Derived.RangeFuncNested
import Derived.RangeFuncBound
import Derived.RangeFuncCalls
import Derived.RangeFuncLeaves
import Derived.Shelf.Abstract
import Derived.Shelf.RegionOpen
import Derived.WalkKit
import Derived.OwnWalkIn
import Derived.TacticsInMore
import Derived.LoopNIn
import Derived.LoopIn
import Derived.Test.YtkpholfdjgdjnaaGreatDoorSh
import Derived.Test.YtkpholfdjgdjnaaGreatDoorM01
import Derived.Test.YtkpholfdjgdjnaaGreatDoorM06
import Derived.RecoverIn
import Derived.Defers
import Derived.Recover
import Derived.RegionIn
namespace Go.Proofs.YtkpholfdjgdjnaaGreatDoor
open Go Go.RowKit Go.Proofs Go.Shelf
attribute [local go_sem] Oper.semAt_some
def tokA (t : Tok) : Value := .agg #[.string t.1, .int .i64 t.2]
def signZ (c : Int) : Bool := c == 40 || c == 41 || c == 44 || c == 60 || c == 62 || c == 61 || c == 33
theorem byte_of {c : Int} (h0 : 0 ≤ c) (h1 : c ≤ 255) : ∃ b : UInt8, c.toNat.toUInt8 = b ∧ c = b.toNat := by
  refine ⟨_, rfl, ?_⟩
  have : (c.toNat.toUInt8).toNat = c.toNat % 256 := by simp [Nat.toUInt8]
  omega
theorem indexByte_nonneg (l : List UInt8) (b : UInt8) : 0 ≤ Lib.indexByte l b ↔ b ∈ l := by
  have hg := Lib.indexByte_ge l b
  constructor
  · intro h
    obtain ⟨o, ho⟩ : ∃ o : Nat, Lib.indexByte l b = o := ⟨(Lib.indexByte l b).toNat, by omega⟩
    have h1 := (Lib.indexByte_some ho).1
    obtain ⟨h2, h3⟩ := List.getElem?_eq_some_iff.1 h1
    rw [← h3]
    exact List.getElem_mem h2
  · intro h
    rcases Int.lt_or_le (Lib.indexByte l b) 0 with hlt | hle
    · exfalso
      obtain ⟨i, hi, he⟩ := List.getElem_of_mem h
      have := Lib.indexByte_none (l := l) (c := b) (by omega) i
      exact this (by rw [List.getElem?_eq_getElem hi, he])
    · exact hle
theorem inBlank (c : Int) (w : World) (h0 : 0 ≤ c) (h1 : c ≤ 255) :
    Calls Tryz.prog 67 #[.string ⟨#[32, 9, 10, 13]⟩, .int .u8 c] w fun e w' => ∃ z : Int, e = .returned (.int .i64 z) ∧ w' = w ∧ decide (0 ≤ z) = blankZ c := by
  refine (Tryz.strings_IndexByte ⟨#[32, 9, 10, 13]⟩ c w).mono ?_
  rintro e w' ⟨rfl, rfl⟩
  refine ⟨_, rfl, rfl, ?_⟩
  obtain ⟨b, hb, hc⟩ := byte_of h0 h1
  rw [hb, Bool.eq_iff_iff, decide_eq_true_eq, indexByte_nonneg]
  unfold blankZ
  simp only [Bool.or_eq_true, beq_iff_eq, List.mem_cons, List.not_mem_nil, or_false, ← UInt8.toNat_inj]
  rw [hc]
  have e1 : (32 : UInt8).toNat = 32 := rfl
  have e2 : (9 : UInt8).toNat = 9 := rfl
  have e3 : (10 : UInt8).toNat = 10 := rfl
  have e4 : (13 : UInt8).toNat = 13 := rfl
  omega
theorem inSigns (c : Int) (w : World) (h0 : 0 ≤ c) (h1 : c ≤ 255) :
    Calls Tryz.prog 67 #[.string ⟨#[40, 41, 44, 60, 62, 61, 33]⟩, .int .u8 c] w fun e w' => ∃ z : Int, e = .returned (.int .i64 z) ∧ w' = w ∧ decide (0 ≤ z) = signZ c := by
  refine (Tryz.strings_IndexByte ⟨#[40, 41, 44, 60, 62, 61, 33]⟩ c w).mono ?_
  rintro e w' ⟨rfl, rfl⟩
  refine ⟨_, rfl, rfl, ?_⟩
  obtain ⟨b, hb, hc⟩ := byte_of h0 h1
  rw [hb, Bool.eq_iff_iff, decide_eq_true_eq, indexByte_nonneg]
  unfold signZ
  simp only [Bool.or_eq_true, beq_iff_eq, List.mem_cons, List.not_mem_nil, or_false, ← UInt8.toNat_inj]
  rw [hc]
  have e1 : (40 : UInt8).toNat = 40 := rfl
  have e2 : (41 : UInt8).toNat = 41 := rfl
  have e3 : (44 : UInt8).toNat = 44 := rfl
  have e4 : (60 : UInt8).toNat = 60 := rfl
  have e5 : (62 : UInt8).toNat = 62 := rfl
  have e6 : (61 : UInt8).toNat = 61 := rfl
  have e7 : (33 : UInt8).toNat = 33 := rfl
  omega
theorem yes_of {z : Int} {b : Bool} (h : decide (0 ≤ z) = b) (hb : b = true) : 0 ≤ z := by subst hb; simpa using h
theorem no_of {z : Int} {b : Bool} (h : decide (0 ≤ z) = b) (hb : b = false) : z < 0 := by subst hb; simpa using h
theorem extract_nil (s : ByteArray) (k : Nat) : s.extract k k = ⟨#[]⟩ := by
  apply ByteArray.ext
  simp [ByteArray.data_extract]
theorem tl_nosign (s : ByteArray) (k : Nat) (hw : wordZ (bt s k) = false) (h : signZ (bt s k) = false) : tl s k = 0 := by
  unfold signZ at h
  simp only [Bool.or_eq_false_iff] at h
  obtain ⟨⟨⟨⟨⟨⟨h1, h2⟩, h3⟩, h4⟩, h5⟩, h6⟩, h7⟩ := h
  unfold tl
  rw [if_neg (by rw [hw]; simp)]
  unfold sg
  simp [h1, h2, h3, h4, h5, h6, h7]
theorem sign_cases (s : ByteArray) (k : Nat) (h : signZ (bt s k) = true) : bt s k = 60 ∨ bt s k = 62 ∨ bt s k = 33 ∨ (bt s k = 40 ∨ bt s k = 41 ∨ bt s k = 44 ∨ bt s k = 61) := by
  unfold signZ at h
  simp only [Bool.or_eq_true, beq_iff_eq] at h
  omega
theorem sg_one (s : ByteArray) (k : Nat) (h : bt s k = 40 ∨ bt s k = 41 ∨ bt s k = 44 ∨ bt s k = 61) : sg s k = 1 := by
  unfold sg
  rw [if_pos]
  simp only [Bool.or_eq_true, beq_iff_eq]
  omega
structure TokRel (s : ByteArray) (n₀ : Nat) (J : List Tok → World → Prop) (W : World) (k : Nat) (pre : List Tok) (wr : World) : Prop where
  le : k ≤ s.size
  len : pre.length ≤ k
  lex : lexP s 0 = pre ++ lexP s k
  j : J pre wr
  below : Below n₀ W wr
theorem TokRel.blank {s : ByteArray} {n₀ : Nat} {J : List Tok → World → Prop} {W wr : World} {k : Nat} {pre : List Tok} (h : TokRel s n₀ J W k pre wr) (hlt : k < s.size) (hb : blankZ (bt s k) = true) : TokRel s n₀ J W (k + 1) pre wr :=
  ⟨by omega, by have := h.len; omega, by rw [h.lex, lexP_blank s k hlt hb], h.j, h.below⟩
theorem TokRel.tok {s : ByteArray} {n₀ : Nat} {J : List Tok → World → Prop} {W wr W3 : World} {k n : Nat} {pre : List Tok} (h : TokRel s n₀ J W k pre wr) (hlt : k < s.size) (hb : blankZ (bt s k) = false) (hn : tl s k = n) (hp : 0 < n)
    (hJ : J (pre ++ [(s.extract k (k + n), k)]) W3) (hk : Below n₀ wr W3) : TokRel s n₀ J W (k + n) (pre ++ [(s.extract k (k + n), k)]) W3 := by
  subst hn
  have := tl_le s k hlt
  have := h.len
  exact ⟨by omega, by simp; omega, by rw [h.lex, lexP_tok s k hlt hb hp]; simp, hJ, h.below.trans hk⟩
theorem TokRel.pfx {s : ByteArray} {n₀ : Nat} {J : List Tok → World → Prop} {W wr : World} {k n : Nat} {pre : List Tok} (h : TokRel s n₀ J W k pre wr) (hlt : k < s.size) (hb : blankZ (bt s k) = false) (hn : tl s k = n) (hp : 0 < n) :
    pre ++ [(s.extract k (k + n), k)] <+: lexP s 0 := by
  subst hn
  rw [h.lex, lexP_tok s k hlt hb hp]
  exact ⟨lexP s (k + tl s k), by simp⟩
theorem TokRel.bad {s : ByteArray} {n₀ : Nat} {J : List Tok → World → Prop} {W wr : World} {k : Nat} {pre : List Tok} (h : TokRel s n₀ J W k pre wr) (hlt : k < s.size) (hb : blankZ (bt s k) = false) (hn : tl s k = 0) :
    pre ++ [(⟨#[]⟩, k)] = lexP s 0 := by
  rw [h.lex, lexP_bad s k hlt hb hn]
end Go.Proofs.YtkpholfdjgdjnaaGreatDoor
namespace Go.Proofs.YtkpholfdjgdjnaaGreatDoor
open Go Go.RowKit Go.Proofs Go.Shelf
attribute [local go_sem] Oper.semAt_some
set_option maxRecDepth 100000 in
set_option maxHeartbeats 4000000 in
theorem tokens1_in (n : Nat) (hn : 1 ≤ n) (l Bn n₀ : Nat) (s : ByteArray) (hs : s.size ≤ 4096) (J Jx : List Tok → World → Prop)
    (hY : ∀ pre x W, J pre W → pre.length < 4097 → YieldAt Fence.wide (n - 1) Tryz.prog l #[tokA x] W fun e W' =>
      (e = .returned (.bool true) ∧ J (pre ++ [x]) W' ∧ Below n₀ W W') ∨ (e = .returned (.bool false) ∧ Jx (pre ++ [x]) W'))
    (W : World) (hBn : W.cell? ⟨Bn, 0, none⟩ = some (.string s)) (hlt : Bn < n₀) (hnW : n₀ ≤ W.heap.size) (h0 : J [] W) :
    CallsIn Fence.wide n Tryz.prog 66 #[.func (.yield l) #[] #[], .pointer (some ⟨Bn, 0, none⟩)] W fun e W' => (∃ v, e = .returned v) ∧
      ((∃ ys, ys = lexP s 0 ∧ J ys W') ∨ (∃ pre, pre <+: lexP s 0 ∧ Jx pre W')) := by
  refine callsIn_of_wp Tryz.func66 rfl trivial ?_ rfl
  simp only [Tryz.ntmps66, List.size_toArray, List.length_cons, List.length_nil, Nat.reduceAdd, Nat.reduceSub, Array.replicate_succ, Array.replicate_zero, List.push_toArray, List.append_toArray, List.nil_append, List.cons_append]
  gi_wp2
  gi_loopw [3] (fun p wr => ∃ (k : Nat) (pre : List Tok), p = .int .i64 k ∧ TokRel s n₀ J W k pre wr) (fun p _ => s.size - (intOf p).toNat)
  case atStart => exact ⟨0, [], rfl, by omega, by simp, by simp, h0, Below.refl _ _⟩
  case round =>
    obtain ⟨k, pre, rfl, R⟩ := hrel
    have hc : wr.cell? ⟨Bn, 0, none⟩ = some (.string s) := (R.below.cell (p := ⟨Bn, 0, none⟩) hlt).trans hBn
    have HR := Lib.hid R
    clear R
    by_cases hk : k < s.size
    · have hb := bt_at s k
      have hr := bt_range s k
      rcases hbl : blankZ (bt s k) with _ | _
      · have Hbl := Lib.hid hbl
        clear hbl
        rcases hw : wordZ (bt s k) with _ | _
        · have Hw := Lib.hid hw
          clear hw
          rcases hsg : signZ (bt s k) with _ | _
          · have HS := Lib.hid hsg
            have HN := Lib.hid (tl_nosign s k Hw.out hsg)
            have hx := extract_nil s k
            clear hsg
            obtain ⟨fn, tmps, assign, body, hy, hR⟩ := hY pre (⟨#[]⟩, k) _ HR.out.j (by have := HR.out.len; omega)
            unfold tokA at hy
            dsimp only at hy
            rw [show (⟨#[]⟩ : ByteArray) = ByteArray.empty from rfl] at hy
            gi_wp2_with (first
              | (refine ⟨trivial, ?_⟩; gi_at_call 67; refine (callsIn_wide.2 (inBlank (bt s k) _ hr.1 hr.2)).mono ?_; rintro e w' ⟨z, rfl, rfl, hz⟩; have hz1 := no_of hz Hbl.out; clear hz)
              | (refine ⟨trivial, ?_⟩; gi_at_call 68; refine (callsIn_wide.2 (wordByte_calls (bt s k) _ hr.1 hr.2)).mono ?_; rw [Hw.out]; rintro e w' ⟨rfl, rfl⟩)
              | (refine ⟨trivial, ?_⟩; gi_at_call 67; refine (callsIn_wide.2 (inSigns (bt s k) _ hr.1 hr.2)).mono ?_; rintro e w' ⟨z2, rfl, rfl, hz⟩; have hz2 := no_of hz HS.out; clear hz))
            refine hR.mono ?_
            rintro e W3 (⟨rfl, hJ3, hk3⟩ | ⟨rfl, hJx3⟩)
            · gi_wp2
              refine bodyPost_ret (results_none rfl _ _ _) rfl ?_
              exact ⟨⟨_, rfl⟩, .inl ⟨_, HR.out.bad hk Hbl.out HN.out, hJ3⟩⟩
            · gi_wp2
              refine bodyPost_ret (results_none rfl _ _ _) rfl ?_
              exact ⟨⟨_, rfl⟩, .inr ⟨_, by rw [HR.out.bad hk Hbl.out HN.out]; exact List.prefix_refl _, hJx3⟩⟩
          · have HS := Lib.hid hsg
            have HC := Lib.hid (sign_cases s k hsg)
            have HT := Lib.hid (show tl s k = sg s k by unfold tl; rw [if_neg (by rw [Hw.out]; simp)])
            clear hsg
            rcases HC.out with hc | hc | hc | hc
            · 
              have h40 : (bt s k == 40) = false := by rw [hc]; rfl
              have h41 : (bt s k == 41) = false := by rw [hc]; rfl
              have h44 : (bt s k == 44) = false := by rw [hc]; rfl
              have h6q : (bt s k == 61) = false := by rw [hc]; rfl
              have h60 : (bt s k == 60) = true := by rw [hc]; rfl
              have h62 : (bt s k == 62) = false := by rw [hc]; rfl
              have h33 : (bt s k == 33) = false := by rw [hc]; rfl
              clear hc
              rcases Nat.lt_or_ge (k + 1) s.size with hk1 | hk1
              · have hb1 := bt_at s (k + 1)
                by_cases h2 : bt s (k + 1) = 61
                · have h61 : (bt s (k + 1) == 61) = true := beq_iff_eq.2 h2
                  have HN := Lib.hid (show tl s k = 2 by rw [HT.out]; unfold sg; simp [h40, h41, h44, h6q, h60, h62, h33, h61])
                  clear h2
                  obtain ⟨fn, tmps, assign, body, hy, hR⟩ := hY pre (s.extract k (k + 2), k) _ HR.out.j (by have := HR.out.len; omega)
                  unfold tokA at hy
                  dsimp only at hy
                  gi_wp2_with (first
                    | (refine ⟨trivial, ?_⟩; gi_at_call 67; refine (callsIn_wide.2 (inBlank (bt s k) _ hr.1 hr.2)).mono ?_; rintro e w' ⟨z, rfl, rfl, hz⟩; have hz1 := no_of hz Hbl.out; clear hz)
                    | (refine ⟨trivial, ?_⟩; gi_at_call 68; refine (callsIn_wide.2 (wordByte_calls (bt s k) _ hr.1 hr.2)).mono ?_; rw [Hw.out]; rintro e w' ⟨rfl, rfl⟩)
                    | (refine ⟨trivial, ?_⟩; gi_at_call 67; refine (callsIn_wide.2 (inSigns (bt s k) _ hr.1 hr.2)).mono ?_; rintro e w' ⟨z2, rfl, rfl, hz⟩; have hz2 := yes_of hz HS.out; clear hz))
                  refine hR.mono ?_
                  rintro e W3 (⟨rfl, hJ3, hk3⟩ | ⟨rfl, hJx3⟩)
                  · gi_wp2
                    go_roundw
                    case rel => exact ⟨k + 2, _, by go_num, HR.out.tok hk Hbl.out HN.out (by decide) hJ3 hk3⟩
                    case measure => simp [intOf]; omega
                  · gi_wp2
                    refine bodyPost_ret (results_none rfl _ _ _) rfl ?_
                    exact ⟨⟨_, rfl⟩, .inr ⟨_, HR.out.pfx hk Hbl.out HN.out (by decide), hJx3⟩⟩
                · have h61 : (bt s (k + 1) == 61) = false := beq_eq_false_iff_ne.2 h2
                  have HN := Lib.hid (show tl s k = 1 by rw [HT.out]; unfold sg; simp [h40, h41, h44, h6q, h60, h62, h33, h61])
                  clear h2
                  obtain ⟨fn, tmps, assign, body, hy, hR⟩ := hY pre (s.extract k (k + 1), k) _ HR.out.j (by have := HR.out.len; omega)
                  unfold tokA at hy
                  dsimp only at hy
                  gi_wp2_with (first
                    | (refine ⟨trivial, ?_⟩; gi_at_call 67; refine (callsIn_wide.2 (inBlank (bt s k) _ hr.1 hr.2)).mono ?_; rintro e w' ⟨z, rfl, rfl, hz⟩; have hz1 := no_of hz Hbl.out; clear hz)
                    | (refine ⟨trivial, ?_⟩; gi_at_call 68; refine (callsIn_wide.2 (wordByte_calls (bt s k) _ hr.1 hr.2)).mono ?_; rw [Hw.out]; rintro e w' ⟨rfl, rfl⟩)
                    | (refine ⟨trivial, ?_⟩; gi_at_call 67; refine (callsIn_wide.2 (inSigns (bt s k) _ hr.1 hr.2)).mono ?_; rintro e w' ⟨z2, rfl, rfl, hz⟩; have hz2 := yes_of hz HS.out; clear hz))
                  refine hR.mono ?_
                  rintro e W3 (⟨rfl, hJ3, hk3⟩ | ⟨rfl, hJx3⟩)
                  · gi_wp2
                    go_roundw
                    case rel => exact ⟨k + 1, _, by go_num, HR.out.tok hk Hbl.out HN.out (by decide) hJ3 hk3⟩
                    case measure => simp [intOf]; omega
                  · gi_wp2
                    refine bodyPost_ret (results_none rfl _ _ _) rfl ?_
                    exact ⟨⟨_, rfl⟩, .inr ⟨_, HR.out.pfx hk Hbl.out HN.out (by decide), hJx3⟩⟩
              · have hz61 : (bt s (k + 1) == 61) = false := by rw [bt_out s (k + 1) hk1]; rfl
                have HN := Lib.hid (show tl s k = 1 by rw [HT.out]; unfold sg; simp [h40, h41, h44, h6q, h60, h62, h33, hz61])
                clear hz61
                have hk1' : ¬ (k + 1 < s.size) := by omega
                obtain ⟨fn, tmps, assign, body, hy, hR⟩ := hY pre (s.extract k (k + 1), k) _ HR.out.j (by have := HR.out.len; omega)
                unfold tokA at hy
                dsimp only at hy
                gi_wp2_with (first
                  | (refine ⟨trivial, ?_⟩; gi_at_call 67; refine (callsIn_wide.2 (inBlank (bt s k) _ hr.1 hr.2)).mono ?_; rintro e w' ⟨z, rfl, rfl, hz⟩; have hz1 := no_of hz Hbl.out; clear hz)
                  | (refine ⟨trivial, ?_⟩; gi_at_call 68; refine (callsIn_wide.2 (wordByte_calls (bt s k) _ hr.1 hr.2)).mono ?_; rw [Hw.out]; rintro e w' ⟨rfl, rfl⟩)
                  | (refine ⟨trivial, ?_⟩; gi_at_call 67; refine (callsIn_wide.2 (inSigns (bt s k) _ hr.1 hr.2)).mono ?_; rintro e w' ⟨z2, rfl, rfl, hz⟩; have hz2 := yes_of hz HS.out; clear hz))
                refine hR.mono ?_
                rintro e W3 (⟨rfl, hJ3, hk3⟩ | ⟨rfl, hJx3⟩)
                · gi_wp2
                  go_roundw
                  case rel => exact ⟨k + 1, _, by go_num, HR.out.tok hk Hbl.out HN.out (by decide) hJ3 hk3⟩
                  case measure => simp [intOf]; omega
                · gi_wp2
                  refine bodyPost_ret (results_none rfl _ _ _) rfl ?_
                  exact ⟨⟨_, rfl⟩, .inr ⟨_, HR.out.pfx hk Hbl.out HN.out (by decide), hJx3⟩⟩
            · 
              have h40 : (bt s k == 40) = false := by rw [hc]; rfl
              have h41 : (bt s k == 41) = false := by rw [hc]; rfl
              have h44 : (bt s k == 44) = false := by rw [hc]; rfl
              have h6q : (bt s k == 61) = false := by rw [hc]; rfl
              have h60 : (bt s k == 60) = false := by rw [hc]; rfl
              have h62 : (bt s k == 62) = true := by rw [hc]; rfl
              have h33 : (bt s k == 33) = false := by rw [hc]; rfl
              clear hc
              rcases Nat.lt_or_ge (k + 1) s.size with hk1 | hk1
              · have hb1 := bt_at s (k + 1)
                by_cases h2 : bt s (k + 1) = 61
                · have h61 : (bt s (k + 1) == 61) = true := beq_iff_eq.2 h2
                  have HN := Lib.hid (show tl s k = 2 by rw [HT.out]; unfold sg; simp [h40, h41, h44, h6q, h60, h62, h33, h61])
                  clear h2
                  obtain ⟨fn, tmps, assign, body, hy, hR⟩ := hY pre (s.extract k (k + 2), k) _ HR.out.j (by have := HR.out.len; omega)
                  unfold tokA at hy
                  dsimp only at hy
                  gi_wp2_with (first
                    | (refine ⟨trivial, ?_⟩; gi_at_call 67; refine (callsIn_wide.2 (inBlank (bt s k) _ hr.1 hr.2)).mono ?_; rintro e w' ⟨z, rfl, rfl, hz⟩; have hz1 := no_of hz Hbl.out; clear hz)
                    | (refine ⟨trivial, ?_⟩; gi_at_call 68; refine (callsIn_wide.2 (wordByte_calls (bt s k) _ hr.1 hr.2)).mono ?_; rw [Hw.out]; rintro e w' ⟨rfl, rfl⟩)
                    | (refine ⟨trivial, ?_⟩; gi_at_call 67; refine (callsIn_wide.2 (inSigns (bt s k) _ hr.1 hr.2)).mono ?_; rintro e w' ⟨z2, rfl, rfl, hz⟩; have hz2 := yes_of hz HS.out; clear hz))
                  refine hR.mono ?_
                  rintro e W3 (⟨rfl, hJ3, hk3⟩ | ⟨rfl, hJx3⟩)
                  · gi_wp2
                    go_roundw
                    case rel => exact ⟨k + 2, _, by go_num, HR.out.tok hk Hbl.out HN.out (by decide) hJ3 hk3⟩
                    case measure => simp [intOf]; omega
                  · gi_wp2
                    refine bodyPost_ret (results_none rfl _ _ _) rfl ?_
                    exact ⟨⟨_, rfl⟩, .inr ⟨_, HR.out.pfx hk Hbl.out HN.out (by decide), hJx3⟩⟩
                · have h61 : (bt s (k + 1) == 61) = false := beq_eq_false_iff_ne.2 h2
                  have HN := Lib.hid (show tl s k = 1 by rw [HT.out]; unfold sg; simp [h40, h41, h44, h6q, h60, h62, h33, h61])
                  clear h2
                  obtain ⟨fn, tmps, assign, body, hy, hR⟩ := hY pre (s.extract k (k + 1), k) _ HR.out.j (by have := HR.out.len; omega)
                  unfold tokA at hy
                  dsimp only at hy
                  gi_wp2_with (first
                    | (refine ⟨trivial, ?_⟩; gi_at_call 67; refine (callsIn_wide.2 (inBlank (bt s k) _ hr.1 hr.2)).mono ?_; rintro e w' ⟨z, rfl, rfl, hz⟩; have hz1 := no_of hz Hbl.out; clear hz)
                    | (refine ⟨trivial, ?_⟩; gi_at_call 68; refine (callsIn_wide.2 (wordByte_calls (bt s k) _ hr.1 hr.2)).mono ?_; rw [Hw.out]; rintro e w' ⟨rfl, rfl⟩)
                    | (refine ⟨trivial, ?_⟩; gi_at_call 67; refine (callsIn_wide.2 (inSigns (bt s k) _ hr.1 hr.2)).mono ?_; rintro e w' ⟨z2, rfl, rfl, hz⟩; have hz2 := yes_of hz HS.out; clear hz))
                  refine hR.mono ?_
                  rintro e W3 (⟨rfl, hJ3, hk3⟩ | ⟨rfl, hJx3⟩)
                  · gi_wp2
                    go_roundw
                    case rel => exact ⟨k + 1, _, by go_num, HR.out.tok hk Hbl.out HN.out (by decide) hJ3 hk3⟩
                    case measure => simp [intOf]; omega
                  · gi_wp2
                    refine bodyPost_ret (results_none rfl _ _ _) rfl ?_
                    exact ⟨⟨_, rfl⟩, .inr ⟨_, HR.out.pfx hk Hbl.out HN.out (by decide), hJx3⟩⟩
              · have hz61 : (bt s (k + 1) == 61) = false := by rw [bt_out s (k + 1) hk1]; rfl
                have HN := Lib.hid (show tl s k = 1 by rw [HT.out]; unfold sg; simp [h40, h41, h44, h6q, h60, h62, h33, hz61])
                clear hz61
                have hk1' : ¬ (k + 1 < s.size) := by omega
                obtain ⟨fn, tmps, assign, body, hy, hR⟩ := hY pre (s.extract k (k + 1), k) _ HR.out.j (by have := HR.out.len; omega)
                unfold tokA at hy
                dsimp only at hy
                gi_wp2_with (first
                  | (refine ⟨trivial, ?_⟩; gi_at_call 67; refine (callsIn_wide.2 (inBlank (bt s k) _ hr.1 hr.2)).mono ?_; rintro e w' ⟨z, rfl, rfl, hz⟩; have hz1 := no_of hz Hbl.out; clear hz)
                  | (refine ⟨trivial, ?_⟩; gi_at_call 68; refine (callsIn_wide.2 (wordByte_calls (bt s k) _ hr.1 hr.2)).mono ?_; rw [Hw.out]; rintro e w' ⟨rfl, rfl⟩)
                  | (refine ⟨trivial, ?_⟩; gi_at_call 67; refine (callsIn_wide.2 (inSigns (bt s k) _ hr.1 hr.2)).mono ?_; rintro e w' ⟨z2, rfl, rfl, hz⟩; have hz2 := yes_of hz HS.out; clear hz))
                refine hR.mono ?_
                rintro e W3 (⟨rfl, hJ3, hk3⟩ | ⟨rfl, hJx3⟩)
                · gi_wp2
                  go_roundw
                  case rel => exact ⟨k + 1, _, by go_num, HR.out.tok hk Hbl.out HN.out (by decide) hJ3 hk3⟩
                  case measure => simp [intOf]; omega
                · gi_wp2
                  refine bodyPost_ret (results_none rfl _ _ _) rfl ?_
                  exact ⟨⟨_, rfl⟩, .inr ⟨_, HR.out.pfx hk Hbl.out HN.out (by decide), hJx3⟩⟩
            · 
              have h40 : (bt s k == 40) = false := by rw [hc]; rfl
              have h41 : (bt s k == 41) = false := by rw [hc]; rfl
              have h44 : (bt s k == 44) = false := by rw [hc]; rfl
              have h6q : (bt s k == 61) = false := by rw [hc]; rfl
              have h60 : (bt s k == 60) = false := by rw [hc]; rfl
              have h62 : (bt s k == 62) = false := by rw [hc]; rfl
              have h33 : (bt s k == 33) = true := by rw [hc]; rfl
              clear hc
              rcases Nat.lt_or_ge (k + 1) s.size with hk1 | hk1
              · have hb1 := bt_at s (k + 1)
                by_cases h2 : bt s (k + 1) = 61
                · have h61 : (bt s (k + 1) == 61) = true := beq_iff_eq.2 h2
                  have HN := Lib.hid (show tl s k = 2 by rw [HT.out]; unfold sg; simp [h40, h41, h44, h6q, h60, h62, h33, h61])
                  clear h2
                  obtain ⟨fn, tmps, assign, body, hy, hR⟩ := hY pre (s.extract k (k + 2), k) _ HR.out.j (by have := HR.out.len; omega)
                  unfold tokA at hy
                  dsimp only at hy
                  gi_wp2_with (first
                    | (refine ⟨trivial, ?_⟩; gi_at_call 67; refine (callsIn_wide.2 (inBlank (bt s k) _ hr.1 hr.2)).mono ?_; rintro e w' ⟨z, rfl, rfl, hz⟩; have hz1 := no_of hz Hbl.out; clear hz)
                    | (refine ⟨trivial, ?_⟩; gi_at_call 68; refine (callsIn_wide.2 (wordByte_calls (bt s k) _ hr.1 hr.2)).mono ?_; rw [Hw.out]; rintro e w' ⟨rfl, rfl⟩)
                    | (refine ⟨trivial, ?_⟩; gi_at_call 67; refine (callsIn_wide.2 (inSigns (bt s k) _ hr.1 hr.2)).mono ?_; rintro e w' ⟨z2, rfl, rfl, hz⟩; have hz2 := yes_of hz HS.out; clear hz))
                  refine hR.mono ?_
                  rintro e W3 (⟨rfl, hJ3, hk3⟩ | ⟨rfl, hJx3⟩)
                  · gi_wp2
                    go_roundw
                    case rel => exact ⟨k + 2, _, by go_num, HR.out.tok hk Hbl.out HN.out (by decide) hJ3 hk3⟩
                    case measure => simp [intOf]; omega
                  · gi_wp2
                    refine bodyPost_ret (results_none rfl _ _ _) rfl ?_
                    exact ⟨⟨_, rfl⟩, .inr ⟨_, HR.out.pfx hk Hbl.out HN.out (by decide), hJx3⟩⟩
                · have h61 : (bt s (k + 1) == 61) = false := beq_eq_false_iff_ne.2 h2
                  have HN := Lib.hid (show tl s k = 0 by rw [HT.out]; unfold sg; simp [h40, h41, h44, h6q, h60, h62, h33, h61])
                  clear h2
                  have hx := extract_nil s k
                  obtain ⟨fn, tmps, assign, body, hy, hR⟩ := hY pre (⟨#[]⟩, k) _ HR.out.j (by have := HR.out.len; omega)
                  unfold tokA at hy
                  dsimp only at hy
                  rw [show (⟨#[]⟩ : ByteArray) = ByteArray.empty from rfl] at hy
                  gi_wp2_with (first
                    | (refine ⟨trivial, ?_⟩; gi_at_call 67; refine (callsIn_wide.2 (inBlank (bt s k) _ hr.1 hr.2)).mono ?_; rintro e w' ⟨z, rfl, rfl, hz⟩; have hz1 := no_of hz Hbl.out; clear hz)
                    | (refine ⟨trivial, ?_⟩; gi_at_call 68; refine (callsIn_wide.2 (wordByte_calls (bt s k) _ hr.1 hr.2)).mono ?_; rw [Hw.out]; rintro e w' ⟨rfl, rfl⟩)
                    | (refine ⟨trivial, ?_⟩; gi_at_call 67; refine (callsIn_wide.2 (inSigns (bt s k) _ hr.1 hr.2)).mono ?_; rintro e w' ⟨z2, rfl, rfl, hz⟩; have hz2 := yes_of hz HS.out; clear hz))
                  refine hR.mono ?_
                  rintro e W3 (⟨rfl, hJ3, hk3⟩ | ⟨rfl, hJx3⟩)
                  · gi_wp2
                    refine bodyPost_ret (results_none rfl _ _ _) rfl ?_
                    exact ⟨⟨_, rfl⟩, .inl ⟨_, HR.out.bad hk Hbl.out HN.out, hJ3⟩⟩
                  · gi_wp2
                    refine bodyPost_ret (results_none rfl _ _ _) rfl ?_
                    exact ⟨⟨_, rfl⟩, .inr ⟨_, by rw [HR.out.bad hk Hbl.out HN.out]; exact List.prefix_refl _, hJx3⟩⟩
              · have hz61 : (bt s (k + 1) == 61) = false := by rw [bt_out s (k + 1) hk1]; rfl
                have HN := Lib.hid (show tl s k = 0 by rw [HT.out]; unfold sg; simp [h40, h41, h44, h6q, h60, h62, h33, hz61])
                clear hz61
                have hx := extract_nil s k
                have hk1' : ¬ (k + 1 < s.size) := by omega
                obtain ⟨fn, tmps, assign, body, hy, hR⟩ := hY pre (⟨#[]⟩, k) _ HR.out.j (by have := HR.out.len; omega)
                unfold tokA at hy
                dsimp only at hy
                rw [show (⟨#[]⟩ : ByteArray) = ByteArray.empty from rfl] at hy
                gi_wp2_with (first
                  | (refine ⟨trivial, ?_⟩; gi_at_call 67; refine (callsIn_wide.2 (inBlank (bt s k) _ hr.1 hr.2)).mono ?_; rintro e w' ⟨z, rfl, rfl, hz⟩; have hz1 := no_of hz Hbl.out; clear hz)
                  | (refine ⟨trivial, ?_⟩; gi_at_call 68; refine (callsIn_wide.2 (wordByte_calls (bt s k) _ hr.1 hr.2)).mono ?_; rw [Hw.out]; rintro e w' ⟨rfl, rfl⟩)
                  | (refine ⟨trivial, ?_⟩; gi_at_call 67; refine (callsIn_wide.2 (inSigns (bt s k) _ hr.1 hr.2)).mono ?_; rintro e w' ⟨z2, rfl, rfl, hz⟩; have hz2 := yes_of hz HS.out; clear hz))
                refine hR.mono ?_
                rintro e W3 (⟨rfl, hJ3, hk3⟩ | ⟨rfl, hJx3⟩)
                · gi_wp2
                  refine bodyPost_ret (results_none rfl _ _ _) rfl ?_
                  exact ⟨⟨_, rfl⟩, .inl ⟨_, HR.out.bad hk Hbl.out HN.out, hJ3⟩⟩
                · gi_wp2
                  refine bodyPost_ret (results_none rfl _ _ _) rfl ?_
                  exact ⟨⟨_, rfl⟩, .inr ⟨_, by rw [HR.out.bad hk Hbl.out HN.out]; exact List.prefix_refl _, hJx3⟩⟩
            · 
              have h60 : (bt s k == 60) = false := beq_eq_false_iff_ne.2 (by omega)
              have h62 : (bt s k == 62) = false := beq_eq_false_iff_ne.2 (by omega)
              have h33 : (bt s k == 33) = false := beq_eq_false_iff_ne.2 (by omega)
              have HN := Lib.hid (show tl s k = 1 by rw [HT.out]; exact sg_one s k hc)
              clear hc
              rcases Nat.lt_or_ge (k + 1) s.size with hk1 | hk1
              · have hb1 := bt_at s (k + 1)
                by_cases h2 : bt s (k + 1) = 61
                · have h61 : (bt s (k + 1) == 61) = true := beq_iff_eq.2 h2
                  clear h2
                  obtain ⟨fn, tmps, assign, body, hy, hR⟩ := hY pre (s.extract k (k + 1), k) _ HR.out.j (by have := HR.out.len; omega)
                  unfold tokA at hy
                  dsimp only at hy
                  gi_wp2_with (first
                    | (refine ⟨trivial, ?_⟩; gi_at_call 67; refine (callsIn_wide.2 (inBlank (bt s k) _ hr.1 hr.2)).mono ?_; rintro e w' ⟨z, rfl, rfl, hz⟩; have hz1 := no_of hz Hbl.out; clear hz)
                    | (refine ⟨trivial, ?_⟩; gi_at_call 68; refine (callsIn_wide.2 (wordByte_calls (bt s k) _ hr.1 hr.2)).mono ?_; rw [Hw.out]; rintro e w' ⟨rfl, rfl⟩)
                    | (refine ⟨trivial, ?_⟩; gi_at_call 67; refine (callsIn_wide.2 (inSigns (bt s k) _ hr.1 hr.2)).mono ?_; rintro e w' ⟨z2, rfl, rfl, hz⟩; have hz2 := yes_of hz HS.out; clear hz))
                  refine hR.mono ?_
                  rintro e W3 (⟨rfl, hJ3, hk3⟩ | ⟨rfl, hJx3⟩)
                  · gi_wp2
                    go_roundw
                    case rel => exact ⟨k + 1, _, by go_num, HR.out.tok hk Hbl.out HN.out (by decide) hJ3 hk3⟩
                    case measure => simp [intOf]; omega
                  · gi_wp2
                    refine bodyPost_ret (results_none rfl _ _ _) rfl ?_
                    exact ⟨⟨_, rfl⟩, .inr ⟨_, HR.out.pfx hk Hbl.out HN.out (by decide), hJx3⟩⟩
                · have h61 : (bt s (k + 1) == 61) = false := beq_eq_false_iff_ne.2 h2
                  clear h2
                  obtain ⟨fn, tmps, assign, body, hy, hR⟩ := hY pre (s.extract k (k + 1), k) _ HR.out.j (by have := HR.out.len; omega)
                  unfold tokA at hy
                  dsimp only at hy
                  gi_wp2_with (first
                    | (refine ⟨trivial, ?_⟩; gi_at_call 67; refine (callsIn_wide.2 (inBlank (bt s k) _ hr.1 hr.2)).mono ?_; rintro e w' ⟨z, rfl, rfl, hz⟩; have hz1 := no_of hz Hbl.out; clear hz)
                    | (refine ⟨trivial, ?_⟩; gi_at_call 68; refine (callsIn_wide.2 (wordByte_calls (bt s k) _ hr.1 hr.2)).mono ?_; rw [Hw.out]; rintro e w' ⟨rfl, rfl⟩)
                    | (refine ⟨trivial, ?_⟩; gi_at_call 67; refine (callsIn_wide.2 (inSigns (bt s k) _ hr.1 hr.2)).mono ?_; rintro e w' ⟨z2, rfl, rfl, hz⟩; have hz2 := yes_of hz HS.out; clear hz))
                  refine hR.mono ?_
                  rintro e W3 (⟨rfl, hJ3, hk3⟩ | ⟨rfl, hJx3⟩)
                  · gi_wp2
                    go_roundw
                    case rel => exact ⟨k + 1, _, by go_num, HR.out.tok hk Hbl.out HN.out (by decide) hJ3 hk3⟩
                    case measure => simp [intOf]; omega
                  · gi_wp2
                    refine bodyPost_ret (results_none rfl _ _ _) rfl ?_
                    exact ⟨⟨_, rfl⟩, .inr ⟨_, HR.out.pfx hk Hbl.out HN.out (by decide), hJx3⟩⟩
              · have hk1' : ¬ (k + 1 < s.size) := by omega
                obtain ⟨fn, tmps, assign, body, hy, hR⟩ := hY pre (s.extract k (k + 1), k) _ HR.out.j (by have := HR.out.len; omega)
                unfold tokA at hy
                dsimp only at hy
                gi_wp2_with (first
                  | (refine ⟨trivial, ?_⟩; gi_at_call 67; refine (callsIn_wide.2 (inBlank (bt s k) _ hr.1 hr.2)).mono ?_; rintro e w' ⟨z, rfl, rfl, hz⟩; have hz1 := no_of hz Hbl.out; clear hz)
                  | (refine ⟨trivial, ?_⟩; gi_at_call 68; refine (callsIn_wide.2 (wordByte_calls (bt s k) _ hr.1 hr.2)).mono ?_; rw [Hw.out]; rintro e w' ⟨rfl, rfl⟩)
                  | (refine ⟨trivial, ?_⟩; gi_at_call 67; refine (callsIn_wide.2 (inSigns (bt s k) _ hr.1 hr.2)).mono ?_; rintro e w' ⟨z2, rfl, rfl, hz⟩; have hz2 := yes_of hz HS.out; clear hz))
                refine hR.mono ?_
                rintro e W3 (⟨rfl, hJ3, hk3⟩ | ⟨rfl, hJx3⟩)
                · gi_wp2
                  go_roundw
                  case rel => exact ⟨k + 1, _, by go_num, HR.out.tok hk Hbl.out HN.out (by decide) hJ3 hk3⟩
                  case measure => simp [intOf]; omega
                · gi_wp2
                  refine bodyPost_ret (results_none rfl _ _ _) rfl ?_
                  exact ⟨⟨_, rfl⟩, .inr ⟨_, HR.out.pfx hk Hbl.out HN.out (by decide), hJx3⟩⟩
        · have Hw := Lib.hid hw
          clear hw
          gi_wp2_with (first
            | (refine ⟨trivial, ?_⟩; gi_at_call 67; refine (callsIn_wide.2 (inBlank (bt s k) _ hr.1 hr.2)).mono ?_; rintro e w' ⟨z, rfl, rfl, hz⟩; have hz1 := no_of hz Hbl.out; clear hz)
            | (refine ⟨trivial, ?_⟩; gi_at_call 68; refine (callsIn_wide.2 (wordByte_calls (bt s k) _ hr.1 hr.2)).mono ?_; rw [Hw.out]; rintro e w' ⟨rfl, rfl⟩))
          have hwl := wl_le s k
          have Htl := Lib.hid (show tl s k = wl s k by unfold tl; rw [if_pos Hw.out])
          have Hws := Lib.hid (wl_step s k hk Hw.out)
          gi_loop [4] (fun e => ∃ j : Nat, e = .int .i64 j ∧ k + j ≤ s.size ∧ Hid (wl s k = j + wl s (k + j))) (fun e => s.size - (intOf e).toNat)
          case atStart => exact ⟨0, rfl, by omega, by unfold Hid; simp⟩
          case round =>
            obtain ⟨j, rfl, hj, hwj⟩ := hrel
            have hbj := bt_at s (k + j)
            have hrj := bt_range s (k + j)
            by_cases hjw : k + j < s.size ∧ wordZ (bt s (k + j)) = true
            · obtain ⟨hjl, hwd⟩ := hjw
              have Hs2 := Lib.hid (wl_step s (k + j) hjl hwd)
              have Hwd := Lib.hid hwd
              clear hwd
              gi_wp2_with (refine ⟨trivial, ?_⟩; gi_at_call 68; refine (callsIn_wide.2 (wordByte_calls (bt s (k + j)) _ hrj.1 hrj.2)).mono ?_; rw [Hwd.out]; rintro e w' ⟨rfl, rfl⟩)
              go_round
              case rel => exact ⟨j + 1, by go_num, by omega, by unfold Hid; rw [hwj.out, Hs2.out, show k + j + 1 = k + (j + 1) by omega]; omega⟩
              case measure => simp [intOf]; omega
            · have hws := wl_stop s (k + j) hjw
              have hwf : Hid (k + j < s.size → wordZ (bt s (k + j)) = false) := fun h => by simpa [h] using hjw
              have Hj := Lib.hid (show tl s k = j by rw [Htl.out, hwj.out, hws]; rfl)
              have hjp : 0 < j := by have := hwj.out; have := Hws.out; omega
              have hj0 : ((j : Int) == 0) = false := by simp; omega
              clear hjw hws hwj
              obtain ⟨fn, tmps, assign, body, hy, hR⟩ := hY pre (s.extract k (k + j), k) _ HR.out.j (by have := HR.out.len; omega)
              unfold tokA at hy
              dsimp only at hy
              gi_wp2_with (first
                | (refine ⟨trivial, ?_⟩; gi_at_call 68; refine (callsIn_wide.2 (wordByte_calls (bt s (k + j)) _ hrj.1 hrj.2)).mono ?_; rw [hwf.out (by omega)]; rintro e w' ⟨rfl, rfl⟩)
                | (refine ⟨trivial, ?_⟩; go_at_K))
              all_goals
                refine hR.mono ?_
                rintro e W3 (⟨rfl, hJ3, hk3⟩ | ⟨rfl, hJx3⟩)
                · gi_wp2
                  go_roundw
                  case rel => exact ⟨k + j, _, by go_num, HR.out.tok hk Hbl.out Hj.out hjp hJ3 hk3⟩
                  case measure => simp [intOf]; omega
                · gi_wp2
                  refine bodyPost_ret (results_none rfl _ _ _) rfl ?_
                  exact ⟨⟨_, rfl⟩, .inr ⟨_, HR.out.pfx hk Hbl.out Hj.out hjp, hJx3⟩⟩
      · have Hbl := Lib.hid hbl
        clear hbl
        gi_wp2_with (refine ⟨trivial, ?_⟩; gi_at_call 67; refine (callsIn_wide.2 (inBlank (bt s k) _ hr.1 hr.2)).mono ?_; rintro e w' ⟨z, rfl, rfl, hz⟩; have hz1 := yes_of hz Hbl.out; clear hz)
        go_roundw
        case rel => exact ⟨k + 1, pre, by go_num, HR.out.blank hk Hbl.out⟩
        case measure => simp [intOf]; omega
    · have HRk := Lib.hid (lexP_end s k hk)
      gi_wp2
      go_end0
      exact ⟨⟨_, rfl⟩, .inl ⟨pre, by rw [HR.out.lex, HRk.out]; simp, HR.out.j⟩⟩
end Go.Proofs.YtkpholfdjgdjnaaGreatDoor
namespace Go.Proofs.YtkpholfdjgdjnaaGreatDoor
open Go Go.RowKit Go.Proofs Go.Shelf
attribute [local go_sem] Oper.semAt_some
theorem Tryz.info67 : (Tryz.prog.info? 67).map (fun i => (i.zero, i.size, i.bytes)) = some (some (.agg #[.string ⟨#[]⟩, .int .i64 0]), 2, 24) := by kernel_rfl
theorem toksV_snoc (T : List Tok) (t : Tok) : toksV (T ++ [t]) = toksV T ++ [.string t.1, .int .i64 t.2] := by simp [toksV, tokV]
theorem lexP_len (s : ByteArray) (i : Nat) : (lexP s i).length ≤ s.size - i + 1 := by
  have := (lex_small s i).2
  unfold lexP
  rw [List.length_append]
  split <;> simp <;> omega
theorem blk_own (b : Nat) (c : List Value) (t : TypeId) : Own (fun (_ : Unit) W => Blk W b c t) := fun _ X Y row hs hg hrow => by
  refine (hg.block b hs.lt (fun e' => ?_)).trans hs
  obtain ⟨o, ho, hc⟩ := hrow b e'.symm
  rw [show X.heap[b]? = _ from hs] at ho
  cases ho
  cases hc
theorem tokens_in (n : Nat) (s : ByteArray) (w : World) :
    CallsIn Fence.wide n Tryz.prog 24 #[.string s] w fun e w' => e = .returned (.func (.func 66) #[] #[.pointer (some ⟨w.heap.size, 0, none⟩)]) ∧ w' = w.alloc (.cells #[.string s] 9) := by
  refine callsIn_of_wp Tryz.func24 rfl trivial ?_ rfl
  simp only [Tryz.ntmps24, List.size_toArray, List.length_cons, List.length_nil, Nat.reduceAdd, Nat.reduceSub, Array.replicate_succ, Array.replicate_zero, List.push_toArray, List.append_toArray, List.nil_append, List.cons_append]
  gi_wp2
  go_ret
  exact ⟨rfl, rfl⟩
theorem tokens_stops (n : Nat) (hn : 1 ≤ n) (Bn n₀ : Nat) (s : ByteArray) (hs : s.size ≤ 4096) (w : World) (hBn : Bn < n₀) (hn₀ : n₀ ≤ w.heap.size) (hc : w.cell? ⟨Bn, 0, none⟩ = some (.string s)) :
    SeqStopsK Fence.wide n Tryz.prog 66 #[.pointer (some ⟨Bn, 0, none⟩)] (fun x : Tok => #[tokA x]) (Below n₀) (fun ys => ys = lexP s 0) (fun pre => pre <+: lexP s 0) 4097 w := fun l J Jx W hW _ _ hY h0 =>
  tokens1_in n hn l Bn n₀ s hs J Jx hY W ((hW.cell (p := ⟨Bn, 0, none⟩) (Nat.lt_of_lt_of_le hBn hn₀)).trans hc) hBn (Nat.le_trans hn₀ hW.size) h0
set_option maxRecDepth 100000 in
set_option maxHeartbeats 4000000 in
theorem appendSeq_in (n : Nat) (hn : 3 ≤ n) (Bn : Nat) (s : ByteArray) (hs : s.size ≤ 4096) (w : World) (hBn : Bn < w.heap.size) (hc : w.cell? ⟨Bn, 0, none⟩ = some (.string s)) :
    CallsIn Fence.wide n Tryz.prog 69 #[.slice none 0 0, .func (.func 66) #[] #[.pointer (some ⟨Bn, 0, none⟩)]] w fun e W' => ∃ v, e = .returned v ∧ W'.ownsRow w.heap.size 67 2 v (lexP s 0).length (toksV (lexP s 0)) ∧ Below w.heap.size w W' := by
  have h1 : 1 ≤ n := by omega
  obtain ⟨i0, hi, hz0, hz1, hz2⟩ := info_parts Tryz.info67
  refine callsIn_of_wp_marks Tryz.func69 rfl trivial ?_ rfl
  simp only [Tryz.ntmps69, List.size_toArray, List.length_cons, List.length_nil, Nat.reduceAdd, Nat.reduceSub, Array.replicate_succ, Array.replicate_zero, List.push_toArray, List.append_toArray, List.nil_append, List.cons_append]
  gi_wp2
  have bO := Boxed.new w 68 (.slice none 0 0)
  have hB0 : Below w.heap.size w (w.alloc (.cells #[.slice none 0 0] 68)) := (Below.refl _ w).alloc (Nat.le_refl _) _
  have hsz : (w.alloc (.cells #[.slice none 0 0] 68)).heap.size = w.heap.size + 1 := by simp
  refine wpIn_rangeFunc_ownH rfl h1 (gf := 66) (lb := #[.pointer (some ⟨Bn, 0, none⟩)]) rfl trivial (enters_of Tryz.func66 (by kernel_rfl) rfl)
    (tokens_stops (n - 1) (by omega) Bn w.heap.size s hs _ hBn (by simp) ((hB0.cell (p := ⟨Bn, 0, none⟩) hBn).trans hc)) belowK_t (belowK_b (by simp)) (Below.refl _ _) (fun _ => rfl)
    (fun pre W => (∃ v, Boxed W w.heap.size 68 v ∧ W.ownsRow w.heap.size 67 2 v pre.length (toksV pre) ∧ True) ∧ Below w.heap.size w W)
    (fun _ _ _ => False)
    (OwnFrom.and (Own.from (holdsRow_own w.heap.size w.heap.size 68 67 2 (fun pre => pre.length) (fun pre => toksV pre) (fun _ _ => True)) _) (ownFrom_below (Nat.le_refl _) (by simp)))
    (fun _ _ _ _ _ hs _ _ => hs)
    ⟨⟨_, bO, World.ownsRow_nil _ _ _ _, trivial⟩, hB0⟩
    (fun x a' W => ∃ Bx, w.heap.size < Bx ∧ Blk W Bx [.string x.1, .int .i64 x.2] 67 ∧ a' = { tmps := #[.slice none 0 0, .func (.func 66) #[] #[.pointer (some ⟨Bn, 0, none⟩)], .pointer (some ⟨w.heap.size, 0, none⟩), undef, .slice none 0 0, .pointer (some ⟨Bx, 0, none⟩), .func (.func 66) #[] #[.pointer (some ⟨Bn, 0, none⟩)], tokA x, undef, undef, undef, undef, undef], defers := [] })
    (fun x a' _ X Y row hs hg hr => by obtain ⟨Bx, e1, e2, e3⟩ := hs; exact ⟨Bx, e1, blk_own Bx _ 67 () X Y row e2 hg (fun r e => (hr r e).2), e3⟩)
    ?assign ?body ?done ?stop
  case assign =>
    rintro l pre x W K ⟨⟨v, hv, hrow, _⟩, hB⟩ hK
    unfold tokA
    dsimp only
    gi_wp2
    exact hK _ _ ((KeepsOthers.alloc _ _).from _) ((Below.refl _ W).alloc hB.size _) ⟨⟨v, hv.alloc _, hrow.alloc _, trivial⟩, hB.alloc hB.size _⟩ ⟨W.heap.size, hv.lt, Blk.new W [.string x.1, .int .i64 x.2] 67, rfl⟩
  case body =>
    rintro l pre x a' W hl ⟨r, hr⟩ ⟨⟨v, hv, hrow, _⟩, hB⟩ ⟨Bx, hBx, bX, rfl⟩ hlt
    have c0 := hv.cell
    have x0 := bX.cell 0
    have x1 := bX.cell 1
    simp only [List.getElem?_cons_zero, List.getElem?_cons_succ] at x0 x1
    gi_wp2_with (gi_at_builtin; refine wpListIn_append_own _ rfl _ _ 68 rfl w.heap.size 67 i0 _ 2 24 Tryz.underlying68 hi hz0 hz1 hz2 rfl (by decide) _ _ _ rfl (hrow.alloc _) ⟨W.heap.size, 0, none⟩ 1 1 [.string x.1, .int .i64 x.2] rfl rfl (cells_new _ _ _) (by simp [Value.oneCell']) (by unfold maxLen; omega) (by omega) (by have := hB.size; simp; omega) ?_; intro v' w1 hown' hgrow _; obtain ⟨g', cap', rfl⟩ := ownsRow_succ hown'; obtain ⟨hv1, hv2, hr2, hk2, hb2⟩ := hv.appended (by decide) hrow hB.size (Nat.le_refl _) hown' hgrow; have hc1 := hv1.cell; have hf1 := hv1.frozen)
    exact ⟨hk2.from _, hb2, ⟨⟨_, hv2, by rw [toksV_snoc]; simpa using hr2, trivial⟩, hB.trans hb2⟩⟩
  case done =>
    rintro D ys W hD rfl ⟨⟨v, hv, hrow, _⟩, hB⟩ hK
    have hc := hv.cell
    gi_wp2
    refine ⟨by simp, .inl ⟨_, _, rfl, run_takeDeferred hK, ?_⟩⟩
    exact ⟨_, results_tmp rfl _ _ _, v, rfl, ownsRow_putObj hrow _ hK rfl, hB.trans (belowK_b (w := w) (Nat.le_refl _) W D _ _ (by simp at hD; omega) hK rfl rfl)⟩
  case stop =>
    rintro D c pre W _ _ h _
    exact h.elim
set_option maxHeartbeats 1000000 in
theorem collect_in (n : Nat) (hn : 4 ≤ n) (Bn : Nat) (s : ByteArray) (hs : s.size ≤ 4096) (w : World) (hBn : Bn < w.heap.size) (hc : w.cell? ⟨Bn, 0, none⟩ = some (.string s)) :
    CallsIn Fence.wide n Tryz.prog 25 #[.func (.func 66) #[] #[.pointer (some ⟨Bn, 0, none⟩)]] w fun e W' => ∃ v, e = .returned v ∧ W'.ownsRow w.heap.size 67 2 v (lexP s 0).length (toksV (lexP s 0)) ∧ Below w.heap.size w W' := by
  have h1 : 1 ≤ n := by omega
  refine callsIn_of_wp Tryz.func25 rfl trivial ?_ rfl
  simp only [Tryz.ntmps25, List.size_toArray, List.length_cons, List.length_nil, Nat.reduceAdd, Nat.reduceSub, Array.replicate_succ, Array.replicate_zero, List.push_toArray, List.append_toArray, List.nil_append, List.cons_append]
  gi_wp2_with (refine ⟨trivial, ?_⟩; gi_at_call 69; refine (appendSeq_in (n - 1) (by omega) Bn s hs w hBn hc).mono ?_; rintro e w' ⟨v, rfl, h2, h3⟩)
  go_ret
  exact ⟨v, rfl, h2, h3⟩
end Go.Proofs.YtkpholfdjgdjnaaGreatDoor
namespace Go.Proofs.YtkpholfdjgdjnaaGreatDoor
open Go Go.RowKit Go.Proofs Go.Shelf
theorem catch_idle (n : Nat) (bq bm : Nat) (w : World) :
    CallsDIn Fence.wide n Tryz.prog 27 #[.pointer (some ⟨bq, 0, none⟩), .pointer (some ⟨bm, 0, none⟩)] .returning w fun e u' w' => e = .returned (.tuple #[]) ∧ u' = .returning ∧ w' = w := by
  refine callsDIn_of_wpSIn Tryz.func27 rfl trivial fun c₀ cs hu => ?_
  apply wpSIn_seq
  apply wpSIn_region
  simp [wpOpsSIn, go_sem, recoverD, hu, Tryz.ntmps27, Exit.thenS]
  apply wpSIn_seq
  apply wpSIn_region
  simp [wpOpsSIn, go_sem, Exit.thenS]
  refine wpSIn_cond (t := false) (by simp [Act.eval]) ?_
  simp only [Bool.false_eq_true, if_false]
  refine wpSIn_of_wpIn rfl (wpIn_skip ?_)
  cases c₀
  simp_all [bodyPostS, results, Tryz.results27]
set_option maxRecDepth 100000 in
set_option maxHeartbeats 1000000 in
theorem catch_panic (n : Nat) (bq bm : Nat) (p e : Int) (older : List PanicEntry) (w : World) (q0 q1 q2 q3 m0 m1 : Value) (hq : Blk w bq [q0, q1, q2, q3] 25) (hm : Blk w bm [m0, m1] 28) (hne : bq ≠ bm) :
    CallsDIn Fence.wide n Tryz.prog 27 #[.pointer (some ⟨bq, 0, none⟩), .pointer (some ⟨bm, 0, none⟩)] (.panicking ({ v := markV p e, recovered := false } :: older)) w fun x u' w' =>
      x = .returned (.tuple #[]) ∧ u' = .panicking ({ v := markV p e, recovered := true } :: older) ∧ Ext [bq, bm] w w' ∧ Blk w' bq [.slice none 0 0, .slice none 0 0, .int .i64 0, .int .i64 0] 25 ∧ Blk w' bm [.int .i64 p, .int .i64 e] 28 := by
  unfold markV
  refine callsDIn_of_wpSIn Tryz.func27 rfl trivial fun c₀ cs hu => ?_
  apply wpSIn_seq
  apply wpSIn_region
  simp [wpOpsSIn, go_sem, recoverD, hu, Tryz.ntmps27, Exit.thenS]
  apply wpSIn_seq
  apply wpSIn_region
  simp [wpOpsSIn, go_sem, Exit.thenS]
  refine wpSIn_cond (t := true) (by simp [Act.eval]) ?_
  simp only [if_true]
  refine wpSIn_of_wpIn rfl ?_
  have q0' := hq.cell 0
  have q1' := hq.cell 1
  have q2' := hq.cell 2
  have q3' := hq.cell 3
  have f0' := hq.frozen 0
  have f1' := hq.frozen 1
  have f2' := hq.frozen 2
  have f3' := hq.frozen 3
  have m0' := hm.cell 0
  have m1' := hm.cell 1
  have g0' := hm.frozen 0
  have g1' := hm.frozen 1
  simp only [List.getElem?_cons_zero, List.getElem?_cons_succ] at q0' q1' q2' q3' m0' m1'
  have hta : ∀ (W : World), (Instr.typeAssert (Value.iface 28 (Value.agg #[Value.int IntKind.i64 p, Value.int IntKind.i64 e])) 20 28 true).run Tryz.prog W = .ok (.tuple #[Value.agg #[Value.int IntKind.i64 p, Value.int IntKind.i64 e], .bool true]) W := fun W => by kernel_rfl
  simp only [List.size_toArray, List.length_cons, List.length_nil, Nat.reduceAdd, Nat.reduceSub, Array.replicate_succ, Array.replicate_zero, List.push_toArray, List.append_toArray, List.nil_append, List.cons_append, List.setIfInBounds_toArray, List.set_cons_zero, List.set_cons_succ]
  gi_wp2
  have hql := hq.lt
  have hml := hm.lt
  obtain ⟨W, hW⟩ : ∃ W, w.alloc (Obj.cells #[Value.int IntKind.i64 p, Value.int IntKind.i64 e] 28) = W := ⟨_, rfl⟩
  have E0 : Ext [bq, bm] w W := by rw [← hW]; exact (Ext.refl _ w).alloc _
  have BQ : Blk W bq [q0, q1, q2, q3] 25 := by rw [← hW]; exact hq.alloc _
  have BM : Blk W bm [m0, m1] 28 := by rw [← hW]; exact hm.alloc _
  have BN : Blk W w.heap.size [Value.int IntKind.i64 p, Value.int IntKind.i64 e] 28 := by rw [← hW]; exact Blk.new w [Value.int IntKind.i64 p, Value.int IntKind.i64 e] 28
  generalize w.heap.size = bn at *
  rw [hW]
  clear hW q0' q1' q2' q3' f0' f1' f2' f3' m0' m1' g0' g1'
  have q0' := BQ.cell 0
  have q1' := BQ.cell 1
  have q2' := BQ.cell 2
  have q3' := BQ.cell 3
  have f0' := BQ.frozen 0
  have f1' := BQ.frozen 1
  have f2' := BQ.frozen 2
  have f3' := BQ.frozen 3
  have m0' := BM.cell 0
  have m1' := BM.cell 1
  have g0' := BM.frozen 0
  have g1' := BM.frozen 1
  have n0' := BN.cell 0
  have n1' := BN.cell 1
  simp only [List.getElem?_cons_zero, List.getElem?_cons_succ] at q0' q1' q2' q3' m0' m1' n0' n1'
  gi_region
  have hb1 := ((((BQ.set 0 (.slice none 0 0)).set 1 (.slice none 0 0)).set 2 (.int .i64 0)).set 3 (.int .i64 0))
  have hm1 := BM.ext ((((((Ext.refl [bq] W).setCell ⟨bq, 0, none⟩ (by simp) (.slice none 0 0)).setCell ⟨bq, 1, none⟩ (by simp) (.slice none 0 0)).setCell ⟨bq, 2, none⟩ (by simp) (.int .i64 0)).setCell ⟨bq, 3, none⟩ (by simp) (.int .i64 0))) (by simpa using fun h => hne h.symm)
  have hm2 := ((hm1.set 0 (.int .i64 p)).set 1 (.int .i64 e)).drew
  have hb2 := (hb1.ext (((Ext.refl [bm] _).setCell ⟨bm, 0, none⟩ (by simp) (.int .i64 p)).setCell ⟨bm, 1, none⟩ (by simp) (.int .i64 e)) (by simpa using hne)).drew
  have e := ((((((((Ext.refl [bq, bm] W).setCell ⟨bq, 0, none⟩ (by simp) (.slice none 0 0)).setCell ⟨bq, 1, none⟩ (by simp) (.slice none 0 0)).setCell ⟨bq, 2, none⟩ (by simp) (.int .i64 0)).setCell ⟨bq, 3, none⟩ (by simp) (.int .i64 0))).setCell ⟨bm, 0, none⟩ (by simp) (.int .i64 p)).setCell ⟨bm, 1, none⟩ (by simp) (.int .i64 e)).drew
  exact ⟨rfl, _, rfl, .tuple #[], results_none rfl _ _ _, rfl, rfl, E0.trans e, hb2, hm2⟩
end Go.Proofs.YtkpholfdjgdjnaaGreatDoor
