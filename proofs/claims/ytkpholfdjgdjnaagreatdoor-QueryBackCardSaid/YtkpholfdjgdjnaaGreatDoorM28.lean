/- Texts of the claim, joined: Q0 Q1 Q2. -/
import Derived.Test.YtkpholfdjgdjnaaGreatDoorM11
import Derived.Test.YtkpholfdjgdjnaaGreatDoorM26
import Derived.Test.YtkpholfdjgdjnaaGreatDoorM23
namespace Go.Proofs.YtkpholfdjgdjnaaGreatDoor
open Go Go.RowKit Go.Proofs
def sfx (s : ByteArray) (i : Nat) : List UInt8 := s.data.toList.drop i
def hdI (l : List UInt8) : Int := match l with | [] => 0 | c :: _ => (c.toNat : Int)
theorem sfx_len (s : ByteArray) (i : Nat) : (sfx s i).length = s.size - i := by
  unfold sfx
  rw [List.length_drop]
  rfl
theorem sfx_lt {s : ByteArray} {i : Nat} {c : UInt8} {r : List UInt8} (h : sfx s i = c :: r) : i < s.size := by
  have := sfx_len s i
  rw [h, List.length_cons] at this
  omega
theorem sfx_nil {s : ByteArray} {i : Nat} (h : sfx s i = []) : ¬ i < s.size := by
  have := sfx_len s i
  rw [h] at this
  simp at this
  omega
theorem sfx_app {s : ByteArray} {i : Nat} {t r : List UInt8} (h : sfx s i = t ++ r) : sfx s (i + t.length) = r := by
  unfold sfx at *
  rw [← List.drop_drop, h, List.drop_left]
theorem sfx_succ {s : ByteArray} {i : Nat} {c : UInt8} {r : List UInt8} (h : sfx s i = c :: r) : sfx s (i + 1) = r := sfx_app (t := [c]) h
theorem bt_sfx (s : ByteArray) (i : Nat) : bt s i = hdI (sfx s i) := by
  unfold bt
  split
  · rename_i h
    have : sfx s i = s[i] :: sfx s (i + 1) := by
      unfold sfx
      rw [List.drop_eq_getElem_cons (by simpa using h)]
      rfl
    rw [this]
    rfl
  · rename_i h
    have : sfx s i = [] := by
      apply List.eq_nil_of_length_eq_zero
      rw [sfx_len]
      omega
    rw [this]
    rfl
theorem bt_sfx1 {s : ByteArray} {i : Nat} {c : UInt8} {r : List UInt8} (h : sfx s i = c :: r) : bt s (i + 1) = hdI r := by rw [bt_sfx, sfx_succ h]
theorem ext_sfx {s : ByteArray} {i : Nat} {t r : List UInt8} (h : sfx s i = t ++ r) : s.extract i (i + t.length) = ⟨t.toArray⟩ := by
  apply ByteArray.ext
  apply Array.toList_inj.1
  rw [ByteArray.data_extract, Array.toList_extract]
  unfold sfx at h
  rw [List.extract_eq_take_drop, Nat.add_sub_cancel_left, h, List.take_left]
def wordB (c : UInt8) : Bool := wordZ (c.toNat : Int)
theorem wl_sfx (s : ByteArray) (r : List UInt8) (hr : wordZ (hdI r) = false) : ∀ (t : List UInt8) (i : Nat), sfx s i = t ++ r → (∀ c ∈ t, wordB c = true) → wl s i = t.length := by
  intro t
  induction t with
  | nil =>
    intro i h _
    rw [wl]
    split
    · rw [bt_sfx, h, List.nil_append, hr]
      rfl
    · rfl
  | cons c t ih =>
    intro i h hw
    rw [List.cons_append] at h
    rw [wl, dif_pos (sfx_lt h), bt_sfx, h]
    have hc : wordZ (hdI (c :: (t ++ r))) = true := hw c (by simp)
    rw [if_pos hc, ih (i + 1) (sfx_succ h) (fun d hd => hw d (by simp [hd]))]
    rfl
def TokB (t r : List UInt8) : Prop :=
  (t ≠ [] ∧ (∀ c ∈ t, wordB c = true) ∧ wordZ (hdI r) = false) ∨ t = [40] ∨ t = [41] ∨ t = [44] ∨ t = [61] ∨ (t = [60] ∧ hdI r ≠ 61) ∨ (t = [62] ∧ hdI r ≠ 61) ∨ t = [60, 61] ∨ t = [62, 61] ∨ t = [33, 61]
theorem tok_ne {t r : List UInt8} (h : TokB t r) : t ≠ [] := by
  rcases h with h | h | h | h | h | h | h | h | h | h
  · exact h.1
  · subst h; simp
  · subst h; simp
  · subst h; simp
  · subst h; simp
  · rw [h.1]; simp
  · rw [h.1]; simp
  · subst h; simp
  · subst h; simp
  · subst h; simp
theorem tok_blank {t r : List UInt8} (h : TokB t r) : blankZ (hdI (t ++ r)) = false := by
  rcases h with h | h | h | h | h | h | h | h | h | h
  · obtain ⟨h1, h2, h3⟩ := h
    cases t with
    | nil => exact absurd rfl h1
    | cons c t =>
      have hc := h2 c (by simp)
      show blankZ (c.toNat : Int) = false
      unfold wordB at hc
      simp only [wordZ, blankZ, Bool.or_eq_true, Bool.and_eq_true, decide_eq_true_eq, beq_iff_eq, Bool.or_eq_false_iff, beq_eq_false_iff_ne] at *
      omega
  · subst h; rfl
  · subst h; rfl
  · subst h; rfl
  · subst h; rfl
  · rw [h.1]; rfl
  · rw [h.1]; rfl
  · subst h; rfl
  · subst h; rfl
  · subst h; rfl
theorem tl_sfx {s : ByteArray} {i : Nat} {t r : List UInt8} (h : sfx s i = t ++ r) (ht : TokB t r) : tl s i = t.length := by
  have b0 := bt_sfx s i
  rw [h] at b0
  have sgn : ∀ {c : UInt8} {t' : List UInt8}, t = c :: t' → bt s i = (c.toNat : Int) ∧ bt s (i + 1) = hdI (t' ++ r) := by
    intro c t' he
    subst he
    exact ⟨b0, by rw [List.cons_append] at h; exact bt_sfx1 h⟩
  rcases ht with ht | ht | ht | ht | ht | ht | ht | ht | ht | ht
  · obtain ⟨h1, h2, h3⟩ := ht
    cases t with
    | nil => exact absurd rfl h1
    | cons c t =>
      have hc := h2 c (by simp)
      unfold tl
      rw [(sgn rfl).1]
      unfold wordB at hc
      rw [if_pos hc]
      exact wl_sfx s r h3 _ i h h2
  · obtain ⟨p, q⟩ := sgn ht
    subst ht
    unfold tl sg
    rw [p]
    rfl
  · obtain ⟨p, q⟩ := sgn ht
    subst ht
    unfold tl sg
    rw [p]
    rfl
  · obtain ⟨p, q⟩ := sgn ht
    subst ht
    unfold tl sg
    rw [p]
    rfl
  · obtain ⟨p, q⟩ := sgn ht
    subst ht
    unfold tl sg
    rw [p]
    rfl
  · obtain ⟨p, q⟩ := sgn ht.1
    rw [ht.1]
    have hq : (bt s (i + 1) == 61) = false := by rw [q]; simpa using ht.2
    unfold tl sg
    rw [p, hq]
    rfl
  · obtain ⟨p, q⟩ := sgn ht.1
    rw [ht.1]
    have hq : (bt s (i + 1) == 61) = false := by rw [q]; simpa using ht.2
    unfold tl sg
    rw [p, hq]
    rfl
  · obtain ⟨p, q⟩ := sgn ht
    subst ht
    unfold tl sg
    rw [p, q]
    rfl
  · obtain ⟨p, q⟩ := sgn ht
    subst ht
    unfold tl sg
    rw [p, q]
    rfl
  · obtain ⟨p, q⟩ := sgn ht
    subst ht
    unfold tl sg
    rw [p, q]
    rfl
def LX (l : List UInt8) (T : List ByteArray) : Prop := ∀ s i, sfx s i = l → (lex s i).2 = none ∧ (lex s i).1.map Prod.fst = T
theorem LX.nil : LX [] [] := by
  intro s i h
  rw [lex_end s i (sfx_nil h)]
  exact ⟨rfl, rfl⟩
theorem LX.blank {l : List UInt8} {T : List ByteArray} (h : LX l T) : LX (32 :: l) T := by
  intro s i hs
  rw [lex_blank s i (sfx_lt hs) (by rw [bt_sfx, hs]; rfl)]
  exact h s (i + 1) (sfx_succ hs)
theorem LX.tok {t r : List UInt8} {T : List ByteArray} (ht : TokB t r) (h : LX r T) : LX (t ++ r) (⟨t.toArray⟩ :: T) := by
  intro s i hs
  have hl := tl_sfx hs ht
  have hp : 0 < t.length := List.length_pos_iff.2 (tok_ne ht)
  have hi : i < s.size := by
    have := sfx_len s i
    rw [hs, List.length_append] at this
    omega
  have hb : blankZ (bt s i) = false := by rw [bt_sfx, hs]; exact tok_blank ht
  rw [lex_tok s i hi hb (by omega), hl]
  obtain ⟨h1, h2⟩ := h s (i + t.length) (sfx_app hs)
  refine ⟨h1, ?_⟩
  rw [List.map_cons, h2, ext_sfx hs]
theorem LX.word {b : ByteArray} {r : List UInt8} {T : List ByteArray} (h0 : b.data.toList ≠ []) (hw : ∀ c ∈ b.data.toList, wordB c = true) (hr : wordZ (hdI r) = false) (h : LX r T) : LX (b.data.toList ++ r) (b :: T) := LX.tok (.inl ⟨h0, hw, hr⟩) h
theorem colW_wordB : ∀ n, n < 10 → ∀ c ∈ (colW[n]?.getD ⟨#[]⟩).data.toList, wordB c = true := by decide
theorem colW_ne (n : Nat) (h1 : 1 ≤ n) (h : n < 10) : (colW[n]?.getD ⟨#[]⟩).data.toList ≠ [] := by
  have : ∀ n, n < 10 → n = 0 ∨ (colW[n]?.getD ⟨#[]⟩).data.toList ≠ [] := by decide
  exact (this n h).resolve_left (by omega)
theorem namesFrom_mem (s : ByteArray) : ∀ (m k : Nat), s.size - k = m → namesFrom s k = true → ∀ c ∈ sfx s k, wordB c = true := by
  intro m
  induction m with
  | zero =>
    intro k hm _ c hc
    have : sfx s k = [] := by
      apply List.eq_nil_of_length_eq_zero
      rw [sfx_len, hm]
    rw [this] at hc
    cases hc
  | succ m ih =>
    intro k hm h c hc
    rw [namesFrom, dif_pos (by omega)] at h
    split at h
    · rename_i hn
      rcases hs : sfx s k with _ | ⟨d, r⟩
      · rw [hs] at hc
        cases hc
      · rw [hs, List.mem_cons] at hc
        rcases hc with rfl | hc
        · rw [bt_sfx, hs] at hn
          unfold hdI at hn
          unfold wordB
          simp only [nameZ, wordZ, Bool.or_eq_true, Bool.and_eq_true, decide_eq_true_eq, beq_iff_eq] at *
          omega
        · exact ih (k + 1) (by omega) h c (by rw [sfx_succ hs]; exact hc)
    · cases h
theorem nameOk_mem {s : ByteArray} (h : nameOk s = true) : s.data.toList ≠ [] ∧ ∀ c ∈ s.data.toList, wordB c = true := by
  unfold nameOk at h
  simp only [Bool.and_eq_true, decide_eq_true_eq] at h
  obtain ⟨⟨h1, h2⟩, h3⟩ := h
  refine ⟨fun he => ?_, fun c hc => namesFrom_mem s _ 0 rfl h1 c (by unfold sfx; simpa using hc)⟩
  have : s.data.toList.length = s.size := rfl
  rw [he] at this
  simp at this
  omega
theorem dec_mem (u : Nat) : ∀ c ∈ Lib.decDigits u, wordB c = true := by
  induction u using Nat.strongRecOn with
  | _ u ih =>
    intro c hc
    rw [Lib.decDigits] at hc
    split at hc
    · rename_i h
      simp only [List.mem_cons, List.not_mem_nil, or_false] at hc
      subst hc
      unfold wordB
      rw [digit_ofNat u h]
      simp only [wordZ, Bool.or_eq_true, Bool.and_eq_true, decide_eq_true_eq, beq_iff_eq]
      omega
    · rename_i h
      rw [List.mem_append] at hc
      rcases hc with hc | hc
      · exact ih _ (by omega) c hc
      · simp only [List.mem_cons, List.not_mem_nil, or_false] at hc
        subst hc
        unfold wordB
        rw [digit_ofNat _ (by omega)]
        simp only [wordZ, Bool.or_eq_true, Bool.and_eq_true, decide_eq_true_eq, beq_iff_eq]
        omega
theorem itoa_mem (n : Int) : Lib.itoa n ≠ [] ∧ ∀ c ∈ Lib.itoa n, wordB c = true := by
  unfold Lib.itoa
  split
  · refine ⟨by simp, fun c hc => ?_⟩
    rw [List.mem_cons] at hc
    rcases hc with rfl | hc
    · decide
    · exact dec_mem _ c hc
  · exact ⟨decDigits_ne _, dec_mem _⟩
def colK (c : ColI) : List ByteArray := if 6 ≤ c.op then [colW[c.op.toNat]?.getD ⟨#[]⟩, sLpar, c.name, sRpar] else [colW[c.op.toNat]?.getD ⟨#[]⟩]
def condK (c : CondI) : List ByteArray := colK c.col ++ [cmpW[c.cmp.toNat]?.getD ⟨#[]⟩, itoaB c.num]
theorem app_list (a b : ByteArray) : (a ++ b).data.toList = a.data.toList ++ b.data.toList := by
  rw [ByteArray.data_append, Array.toList_append]
theorem LX.col {c : ColI} (hc : fitC c = true) {r : List UInt8} {T : List ByteArray} (hr : wordZ (hdI r) = false) (h : LX r T) : LX ((colT c).data.toList ++ r) (colK c ++ T) := by
  obtain ⟨h1, h2, h3⟩ := fitC_op hc
  have hw := colW_wordB c.op.toNat (by omega)
  have hn := colW_ne c.op.toNat (by omega) (by omega)
  unfold colT colK
  by_cases h6 : 6 ≤ c.op
  · rw [if_pos h6, if_pos h6]
    have hN : nameOk c.name = true := by
      unfold fitC at hc
      simp only [Bool.and_eq_true, decide_eq_true_eq] at hc
      have := hc.2.2
      rwa [if_neg (by omega)] at this
    obtain ⟨n1, n2⟩ := nameOk_mem hN
    rw [app_list, app_list, app_list, List.append_assoc, List.append_assoc, List.append_assoc]
    refine LX.word hn hw rfl ?_
    refine LX.tok (t := [40]) (.inr (.inl rfl)) ?_
    refine LX.word n1 n2 rfl ?_
    exact LX.tok (t := [41]) (.inr (.inr (.inl rfl))) h
  · rw [if_neg h6, if_neg h6]
    exact LX.word hn hw hr h
theorem cmp_tok : ∀ n, 1 ≤ n → n < 7 → ∀ r : List UInt8, hdI r = 32 → TokB (cmpW[n]?.getD ⟨#[]⟩).data.toList r := by
  intro n h1 h7 r hr
  have h61 : hdI r ≠ 61 := by omega
  have : n = 1 ∨ n = 2 ∨ n = 3 ∨ n = 4 ∨ n = 5 ∨ n = 6 := by omega
  rcases this with rfl | rfl | rfl | rfl | rfl | rfl
  · exact .inr (.inr (.inr (.inr (.inr (.inl ⟨rfl, h61⟩)))))
  · exact .inr (.inr (.inr (.inr (.inr (.inr (.inr (.inl rfl)))))))
  · exact .inr (.inr (.inr (.inr (.inl rfl))))
  · exact .inr (.inr (.inr (.inr (.inr (.inr (.inr (.inr (.inr rfl))))))))
  · exact .inr (.inr (.inr (.inr (.inr (.inr (.inr (.inr (.inl rfl))))))))
  · exact .inr (.inr (.inr (.inr (.inr (.inr (.inl ⟨rfl, h61⟩))))))
theorem LX.cond {c : CondI} (hc : fitD c = true) {r : List UInt8} {T : List ByteArray} (hr : wordZ (hdI r) = false) (h : LX r T) : LX ((condT c).data.toList ++ r) (condK c ++ T) := by
  obtain ⟨h1, h2, h3⟩ := fitD_op hc
  unfold condT condK
  rw [app_list, app_list, app_list, app_list, List.append_assoc, List.append_assoc, List.append_assoc, List.append_assoc, List.append_assoc]
  refine LX.col h1 rfl ?_
  refine LX.blank ?_
  refine LX.tok (cmp_tok c.cmp.toNat (by omega) (by omega) _ rfl) ?_
  refine LX.blank ?_
  have hi := itoa_mem c.num
  exact LX.word (b := itoaB c.num) (by unfold itoaB; simpa using hi.1) (by unfold itoaB; simpa using hi.2) hr h
theorem LX.joinTail {α : Type} (txt : α → ByteArray) (toks : α → List ByteArray) (sep : List UInt8) (sepK : List ByteArray) (ok : α → Prop)
    (hone : ∀ a, ok a → ∀ r T, wordZ (hdI r) = false → LX r T → LX ((txt a).data.toList ++ r) (toks a ++ T))
    (hsep : ∀ a, ok a → ∀ r T, LX ((txt a).data.toList ++ r) T → LX (sep ++ ((txt a).data.toList ++ r)) (sepK ++ T)) (hs0 : ∀ r, wordZ (hdI (sep ++ r)) = false)
    (l : List α) (hl : ∀ a ∈ l, ok a) {r : List UInt8} {T : List ByteArray} (hr : wordZ (hdI r) = false) (h : LX r T) :
    wordZ (hdI (Lib.joinTail sep (l.map fun a => (txt a).data.toList) ++ r)) = false ∧ LX (Lib.joinTail sep (l.map fun a => (txt a).data.toList) ++ r) (l.flatMap (fun a => sepK ++ toks a) ++ T) := by
  induction l with
  | nil => exact ⟨hr, h⟩
  | cons a l ih =>
    obtain ⟨i1, i2⟩ := ih (fun b hb => hl b (by simp [hb]))
    have e : Lib.joinTail sep ((a :: l).map fun a => (txt a).data.toList) ++ r = sep ++ ((txt a).data.toList ++ (Lib.joinTail sep (l.map fun a => (txt a).data.toList) ++ r)) := by
      simp [Lib.joinTail]
    rw [e]
    refine ⟨hs0 _, ?_⟩
    have := hsep a (hl a (by simp)) _ _ (hone a (hl a (by simp)) _ _ i1 i2)
    simpa using this
def tailK {α : Type} (toks : α → List ByteArray) (sepK : ByteArray) (l : List α) : List ByteArray := l.flatMap fun a => sepK :: toks a
theorem LX.cols {c : ColI} {l : List ColI} (hl : ∀ a ∈ c :: l, fitC a = true) {r : List UInt8} {T : List ByteArray} (hr : wordZ (hdI r) = false) (h : LX r T) : LX ((joinB ((c :: l).map colT) bComma).data.toList ++ r) (colK c ++ (tailK colK sComma l ++ T)) := by
  unfold joinB
  simp only [List.map_cons, List.map_map]
  rw [Lib.join_cons, List.append_assoc]
  obtain ⟨i1, i2⟩ := LX.joinTail colT colK bComma.data.toList [sComma] (fun a => fitC a = true) (fun a ha r T hr h => LX.col ha hr h)
    (fun a _ r T h => LX.tok (t := [44]) (.inr (.inr (.inr (.inl rfl)))) (LX.blank h)) (fun r => rfl) l (fun a ha => hl a (by simp [ha])) hr h
  exact LX.col (hl c (by simp)) i1 i2
theorem LX.conds {c : CondI} {l : List CondI} (hl : ∀ a ∈ c :: l, fitD a = true) {r : List UInt8} {T : List ByteArray} (hr : wordZ (hdI r) = false) (h : LX r T) : LX ((joinB ((c :: l).map condT) bAnd).data.toList ++ r) (condK c ++ (tailK condK sAnd l ++ T)) := by
  unfold joinB
  simp only [List.map_cons, List.map_map]
  rw [Lib.join_cons, List.append_assoc]
  obtain ⟨i1, i2⟩ := LX.joinTail condT condK bAnd.data.toList [sAnd] (fun a => fitD a = true) (fun a ha r T hr h => LX.cond ha hr h)
    (fun a _ r T h => LX.blank (LX.word (b := sAnd) (by decide) (by decide) rfl (LX.blank h))) (fun r => rfl) l (fun a ha => hl a (by simp [ha])) hr h
  exact LX.cond (hl c (by simp)) i1 i2
def whrK (l : List CondI) : List ByteArray := match l with | [] => [] | c :: l => sWhere :: (condK c ++ tailK condK sAnd l)
def srtK (n : Int) : List ByteArray := if 0 < n then [sSort, itoaB n] else if n < 0 then [sSort, itoaB (-n), sDown] else []
def limK (n : Int) : List ByteArray := if 0 < n then [sLimit, itoaB n] else []
def colsK (l : List ColI) : List ByteArray := match l with | [] => [] | c :: l => colK c ++ tailK colK sComma l
def qK (q : QI) : List ByteArray := colsK q.cols ++ (whrK q.whr ++ (srtK q.srt ++ limK q.lim))
theorem LX.itoa (n : Int) {r : List UInt8} {T : List ByteArray} (hr : wordZ (hdI r) = false) (h : LX r T) : LX ((itoaB n).data.toList ++ r) (itoaB n :: T) := by
  have hi := itoa_mem n
  exact LX.word (b := itoaB n) (by unfold itoaB; simpa using hi.1) (by unfold itoaB; simpa using hi.2) hr h
theorem LX.lim (n : Int) : wordZ (hdI (if 0 < n then bLimit.data.toList ++ (itoaB n).data.toList else [])) = false ∧ LX (if 0 < n then bLimit.data.toList ++ (itoaB n).data.toList else []) (limK n) := by
  unfold limK
  split
  · refine ⟨rfl, ?_⟩
    have := LX.itoa n (r := []) rfl LX.nil
    rw [List.append_nil] at this
    exact LX.blank (LX.word (b := sLimit) (by decide) (by decide) rfl (LX.blank this))
  · exact ⟨rfl, LX.nil⟩
theorem LX.srt (n : Int) {r : List UInt8} {T : List ByteArray} (hr : wordZ (hdI r) = false) (h : LX r T) : wordZ (hdI ((if 0 < n then bSort.data.toList ++ (itoaB n).data.toList else if n < 0 then bSort.data.toList ++ ((itoaB (-n)).data.toList ++ bDown.data.toList) else []) ++ r)) = false ∧
    LX ((if 0 < n then bSort.data.toList ++ (itoaB n).data.toList else if n < 0 then bSort.data.toList ++ ((itoaB (-n)).data.toList ++ bDown.data.toList) else []) ++ r) (srtK n ++ T) := by
  unfold srtK
  split
  · refine ⟨rfl, ?_⟩
    rw [List.append_assoc]
    exact LX.blank (LX.word (b := sSort) (by decide) (by decide) rfl (LX.blank (LX.itoa n hr h)))
  · split
    · refine ⟨rfl, ?_⟩
      rw [List.append_assoc, List.append_assoc]
      exact LX.blank (LX.word (b := sSort) (by decide) (by decide) rfl (LX.blank (LX.itoa (-n) rfl (LX.blank (LX.word (b := sDown) (by decide) (by decide) hr h)))))
    · exact ⟨hr, h⟩
theorem LX.whr (l : List CondI) (hl : ∀ a ∈ l, fitD a = true) {r : List UInt8} {T : List ByteArray} (hr : wordZ (hdI r) = false) (h : LX r T) : wordZ (hdI ((if l = [] then [] else bWhere.data.toList ++ (joinB (l.map condT) bAnd).data.toList) ++ r)) = false ∧
    LX ((if l = [] then [] else bWhere.data.toList ++ (joinB (l.map condT) bAnd).data.toList) ++ r) (whrK l ++ T) := by
  cases l with
  | nil => exact ⟨hr, h⟩
  | cons c l =>
    rw [if_neg (by simp)]
    refine ⟨rfl, ?_⟩
    rw [List.append_assoc]
    have := LX.conds hl hr h
    unfold whrK
    rw [List.cons_append, List.append_assoc]
    exact LX.blank (LX.word (b := sWhere) (by decide) (by decide) rfl (LX.blank this))
theorem prt4_list (q : QI) : (prt4 q).data.toList = (joinB (q.cols.map colT) bComma).data.toList ++ ((if q.whr = [] then [] else bWhere.data.toList ++ (joinB (q.whr.map condT) bAnd).data.toList) ++ ((if 0 < q.srt then bSort.data.toList ++ (itoaB q.srt).data.toList else if q.srt < 0 then bSort.data.toList ++ ((itoaB (-q.srt)).data.toList ++ bDown.data.toList) else []) ++ (if 0 < q.lim then bLimit.data.toList ++ (itoaB q.lim).data.toList else []))) := by
  have e2 : (prt2 q).data.toList = (joinB (q.cols.map colT) bComma).data.toList ++ (if q.whr = [] then [] else bWhere.data.toList ++ (joinB (q.whr.map condT) bAnd).data.toList) := by
    unfold prt2 prt1
    split
    · rw [List.append_nil]
    · rw [app_list, app_list]
  have e3 : (prt3 q).data.toList = (prt2 q).data.toList ++ (if 0 < q.srt then bSort.data.toList ++ (itoaB q.srt).data.toList else if q.srt < 0 then bSort.data.toList ++ ((itoaB (-q.srt)).data.toList ++ bDown.data.toList) else []) := by
    unfold prt3
    split
    · rw [app_list, app_list]
    · split
      · rw [app_list, app_list, app_list, List.append_assoc]
      · rw [List.append_nil]
  have e4 : (prt4 q).data.toList = (prt3 q).data.toList ++ (if 0 < q.lim then bLimit.data.toList ++ (itoaB q.lim).data.toList else []) := by
    unfold prt4
    split
    · rw [app_list, app_list]
    · rw [List.append_nil]
  rw [e4, e3, e2, List.append_assoc, List.append_assoc]
theorem lex_print {q : QI} (hq : fitI q = true) : (lex (printI q) 0).2 = none ∧ (lex (printI q) 0).1.map Prod.fst = qK q := by
  obtain ⟨h1, h2, h3⟩ := fit_parts hq
  unfold printI
  rw [if_pos hq]
  obtain ⟨cols, whr, srt, lim⟩ := q
  cases cols with
  | nil => exact absurd h1.1 (by simp)
  | cons c cols =>
    obtain ⟨l1, l2⟩ := LX.lim lim
    obtain ⟨s1, s2⟩ := LX.srt srt l1 l2
    obtain ⟨w1, w2⟩ := LX.whr whr h3 s1 s2
    have := LX.cols h2 w1 w2
    unfold qK colsK
    dsimp only
    rw [List.append_assoc]
    refine this _ 0 ?_
    unfold sfx
    rw [List.drop_zero, prt4_list]
end Go.Proofs.YtkpholfdjgdjnaaGreatDoor
namespace Go.Proofs.YtkpholfdjgdjnaaGreatDoor
open Go Go.RowKit Go.Proofs
theorem map_cons {L : List Tok} {t : ByteArray} {T : List ByteArray} (h : L.map Prod.fst = t :: T) : ∃ a L', L = (t, a) :: L' ∧ L'.map Prod.fst = T := by
  cases L with
  | nil => cases h
  | cons x L =>
    rw [List.map_cons] at h
    injection h with h1 h2
    exact ⟨x.2, L, by rw [← h1], h2⟩
theorem map_nil {L : List Tok} (h : L.map Prod.fst = []) : L = [] := List.map_eq_nil_iff.1 h
theorem pHas_no {s : ByteArray} {L : List Tok} {T : List ByteArray} (h : L.map Prod.fst = T) (hT : T.head? ≠ some s) : pHas s L = false := by
  cases L with
  | nil => rfl
  | cons x L =>
    rw [← h] at hT
    simp only [List.map_cons, List.head?_cons, ne_eq, Option.some.injEq] at hT
    simpa [pHas] using hT
theorem pHas_at (s : ByteArray) (a : Nat) (L : List Tok) : pHas s ((s, a) :: L) = true := by simp [pHas]
theorem idx_colW : ∀ n, 1 ≤ n → n < 10 → idx colW (colW[n]?.getD ⟨#[]⟩) = n := by
  intro n h1 h2
  have : n = 1 ∨ n = 2 ∨ n = 3 ∨ n = 4 ∨ n = 5 ∨ n = 6 ∨ n = 7 ∨ n = 8 ∨ n = 9 := by omega
  clear h1 h2
  rcases this with rfl | rfl | rfl | rfl | rfl | rfl | rfl | rfl | rfl
  all_goals (show @Eq Nat _ _; kernel_rfl)
theorem idx_cmpW : ∀ n, 1 ≤ n → n < 7 → idx cmpW (cmpW[n]?.getD ⟨#[]⟩) = n := by
  intro n h1 h2
  have : n = 1 ∨ n = 2 ∨ n = 3 ∨ n = 4 ∨ n = 5 ∨ n = 6 := by omega
  clear h1 h2
  rcases this with rfl | rfl | rfl | rfl | rfl | rfl
  all_goals (show @Eq Nat _ _; kernel_rfl)
def colZ (c : ColI) : ColZ := ⟨c.op.toNat, c.name⟩
def condZ (c : CondI) : CondZ := ⟨colZ c.col, c.cmp.toNat, c.num⟩
theorem colZ_i {c : ColI} (h : fitC c = true) : (colZ c).i = c := by
  obtain ⟨h1, h2, _⟩ := fitC_op h
  obtain ⟨op, nm⟩ := c
  unfold colZ ColZ.i
  simp only at *
  rw [Int.toNat_of_nonneg (by omega)]
theorem condZ_i {c : CondI} (h : fitD c = true) : (condZ c).i = c := by
  obtain ⟨h1, h2, h3⟩ := fitD_op h
  have h4 := colZ_i h1
  obtain ⟨col, cmp, num⟩ := c
  unfold condZ CondZ.i
  simp only at *
  rw [h4, Int.toNat_of_nonneg (by omega)]
theorem pCol_K (size : Nat) {c : ColI} (hc : fitC c = true) {L : List Tok} {T : List ByteArray} (h : L.map Prod.fst = colK c ++ T) : ∃ L', pCol size L = .ok (colZ c, L') ∧ L'.map Prod.fst = T := by
  obtain ⟨h1, h2, h3⟩ := fitC_op hc
  have hx := idx_colW c.op.toNat (by omega) (by omega)
  unfold colK at h
  by_cases h6 : 6 ≤ c.op
  · have hN : nameOk c.name = true := by
      unfold fitC at hc
      simp only [Bool.and_eq_true, decide_eq_true_eq] at hc
      have := hc.2.2
      rwa [if_neg (by omega)] at this
    rw [if_pos h6] at h
    replace h := map_cons h; obtain ⟨a1, L1, rfl, h⟩ := h
    replace h := map_cons h; obtain ⟨a2, L2, rfl, h⟩ := h
    replace h := map_cons h; obtain ⟨a3, L3, rfl, h⟩ := h
    replace h := map_cons h; obtain ⟨a4, L4, rfl, h⟩ := h
    refine ⟨L4, ?_, h⟩
    unfold pCol
    have ho : opOf ((colW[c.op.toNat]?.getD ⟨#[]⟩, a1) :: (sLpar, a2) :: (c.name, a3) :: (sRpar, a4) :: L4) = c.op.toNat := hx
    rw [ho, if_neg (by omega), if_neg (by omega)]
    simp only [List.tail_cons, pWant, pHas_at, if_true, pName, hN]
    rfl
  · rw [if_neg h6] at h
    have hn : c.name = (⟨#[]⟩ : ByteArray) := by
      unfold fitC at hc
      simp only [Bool.and_eq_true, decide_eq_true_eq] at hc
      have := hc.2.2
      rw [if_pos (by omega)] at this
      exact of_decide_eq_true this
    replace h := map_cons h; obtain ⟨a1, L1, rfl, h⟩ := h
    refine ⟨L1, ?_, h⟩
    unfold pCol
    have ho : opOf ((colW[c.op.toNat]?.getD ⟨#[]⟩, a1) :: L1) = c.op.toNat := hx
    rw [ho, if_neg (by omega), if_pos (by omega)]
    unfold colZ
    rw [hn]
    rfl
theorem pNum_K (size : Nat) {lo hi n : Int} (hn : -lim63 ≤ n ∧ n < lim63) (h1 : lo ≤ n) (h2 : n ≤ hi) {L : List Tok} {T : List ByteArray} (h : L.map Prod.fst = itoaB n :: T) : ∃ L', pNum size lo hi L = .ok (n, L') ∧ L'.map Prod.fst = T := by
  replace h := map_cons h; obtain ⟨a1, L1, rfl, h⟩ := h
  refine ⟨L1, ?_, h⟩
  unfold pNum
  have hf : numOf (itoaB n) = some n := numOf_itoa (by unfold itoaB; rfl) hn.1 hn.2
  simp only [hf]
  rw [if_pos ⟨h1, h2⟩]
theorem pCond_K (size : Nat) {c : CondI} (hc : fitD c = true) (hn : -lim63 ≤ c.num ∧ c.num < lim63) {L : List Tok} {T : List ByteArray} (h : L.map Prod.fst = condK c ++ T) : ∃ L', pCond size L = .ok (condZ c, L') ∧ L'.map Prod.fst = T := by
  obtain ⟨h1, h2, h3⟩ := fitD_op hc
  unfold condK at h
  rw [List.append_assoc] at h
  obtain ⟨L1, e1, h⟩ := pCol_K size h1 h
  replace h := map_cons h; obtain ⟨a2, L2, rfl, h⟩ := h
  obtain ⟨L3, e3, h⟩ := pNum_K size hn (lo := -9223372036854775808) (hi := 9223372036854775807) (by have := hn.1; unfold lim63 at this; omega) (by have := hn.2; unfold lim63 at this; omega) h
  refine ⟨L3, ?_, h⟩
  have hx := idx_cmpW c.cmp.toNat (by omega) (by omega)
  have ho : cmpOf ((cmpW[c.cmp.toNat]?.getD ⟨#[]⟩, a2) :: L2) = c.cmp.toNat := hx
  unfold pCond
  rw [e1]
  dsimp only
  rw [ho, if_neg (by omega), List.tail_cons, e3]
  rfl
theorem pMore_K {α β : Type} (size : Nat) (one : List Tok → Res β) (s : ByteArray) (toks : α → List ByteArray) (f : α → β) (ok : α → Prop)
    (hone : ∀ a, ok a → ∀ L T, L.map Prod.fst = toks a ++ T → ∃ L', one L = .ok (f a, L') ∧ L'.map Prod.fst = T) (T : List ByteArray) (hT : T.head? ≠ some s) :
    ∀ (l : List α) (n : Nat) (acc : List β) (L : List Tok), l.length ≤ n → (∀ a ∈ l, ok a) → L.map Prod.fst = tailK toks s l ++ T → ∃ L', pMore size one s n acc L = .ok (acc ++ l.map f, L') ∧ L'.map Prod.fst = T := by
  intro l
  induction l with
  | nil =>
    intro n acc L _ _ h
    have hp := pHas_no (s := s) (L := L) (T := T) h hT
    refine ⟨L, ?_, h⟩
    cases n with
    | zero =>
      unfold pMore
      rw [hp]
      simp
    | succ n =>
      unfold pMore
      rw [hp]
      simp
  | cons a l ih =>
    intro n acc L hl hok h
    cases n with
    | zero => simp at hl
    | succ n =>
      have e : tailK toks s (a :: l) ++ T = s :: (toks a ++ (tailK toks s l ++ T)) := by simp [tailK]
      rw [e] at h
      replace h := map_cons h; obtain ⟨a1, L1, rfl, h⟩ := h
      obtain ⟨L2, e2, h⟩ := hone a (hok a (by simp)) _ _ h
      obtain ⟨L3, e3, h⟩ := ih n (acc ++ [f a]) L2 (by simpa using hl) (fun b hb => hok b (by simp [hb])) h
      refine ⟨L3, ?_, h⟩
      unfold pMore
      rw [pHas_at, if_pos rfl, List.tail_cons, e2]
      dsimp only
      rw [e3]
      simp
theorem pRow_K {α β : Type} (size : Nat) (one : List Tok → Res β) (s : ByteArray) (toks : α → List ByteArray) (f : α → β) (ok : α → Prop)
    (hone : ∀ a, ok a → ∀ L T, L.map Prod.fst = toks a ++ T → ∃ L', one L = .ok (f a, L') ∧ L'.map Prod.fst = T) (T : List ByteArray) (hT : T.head? ≠ some s)
    (a : α) (l : List α) (L : List Tok) (hl : l.length ≤ 15) (hok : ∀ b ∈ a :: l, ok b) (h : L.map Prod.fst = toks a ++ (tailK toks s l ++ T)) : ∃ L', pRow size one s L = .ok ((a :: l).map f, L') ∧ L'.map Prod.fst = T := by
  obtain ⟨L1, e1, h⟩ := hone a (hok a (by simp)) _ _ h
  obtain ⟨L2, e2, h⟩ := pMore_K size one s toks f ok hone T hT l 15 [f a] L1 hl (fun b hb => hok b (by simp [hb])) h
  refine ⟨L2, ?_, h⟩
  unfold pRow
  rw [e1]
  dsimp only
  rw [e2]
  rfl
theorem head_lim (n : Int) (s : ByteArray) (h : s ≠ sLimit) : (limK n).head? ≠ some s := by
  unfold limK
  split
  · simpa using fun he => h he.symm
  · simp
theorem head_srt (m n : Int) (s : ByteArray) (h1 : s ≠ sSort) (h2 : s ≠ sLimit) : (srtK m ++ limK n).head? ≠ some s := by
  unfold srtK
  split
  · simpa using fun he => h1 he.symm
  · split
    · simpa using fun he => h1 he.symm
    · exact head_lim n s h2
theorem head_whr (l : List CondI) (m n : Int) (s : ByteArray) (h0 : s ≠ sWhere) (h1 : s ≠ sSort) (h2 : s ≠ sLimit) : (whrK l ++ (srtK m ++ limK n)).head? ≠ some s := by
  cases l with
  | nil => exact head_srt m n s h1 h2
  | cons c l => simpa [whrK] using fun he => h0 he.symm
theorem pLimit_K (size : Nat) (n : Int) (h0 : 0 ≤ n) (h1 : n ≤ 1000) {L : List Tok} (h : L.map Prod.fst = limK n) : pLimit size L = .ok (n, []) := by
  unfold limK at h
  split at h
  · replace h := map_cons h; obtain ⟨a1, L1, rfl, h⟩ := h
    obtain ⟨L2, e2, h⟩ := pNum_K size (lo := 1) (hi := 1000) (by unfold lim63; omega) (by omega) h1 h
    obtain rfl := map_nil h
    unfold pLimit
    rw [pHas_at, if_pos rfl, List.tail_cons, e2]
  · obtain rfl := map_nil h
    obtain rfl : n = 0 := by omega
    rfl
theorem pSort_K (size k : Nat) (m n : Int) (hk : k ≤ 16) (h0 : -(k : Int) ≤ m) (h1 : m ≤ k) {L : List Tok} (h : L.map Prod.fst = srtK m ++ limK n) : ∃ L', pSort size k L = .ok (m, L') ∧ L'.map Prod.fst = limK n := by
  have hd : (limK n).head? ≠ some sDown := head_lim n sDown (by decide)
  unfold srtK at h
  split at h
  · replace h := map_cons h; obtain ⟨a1, L1, rfl, h⟩ := h
    obtain ⟨L2, e2, h⟩ := pNum_K size (lo := 1) (hi := k) (by unfold lim63; omega) (by omega) h1 h
    refine ⟨L2, ?_, h⟩
    unfold pSort
    rw [pHas_at, if_pos rfl, List.tail_cons, e2]
    dsimp only
    rw [pHas_no h hd]
    rfl
  · split at h
    · replace h := map_cons h; obtain ⟨a1, L1, rfl, h⟩ := h
      obtain ⟨L2, e2, h⟩ := pNum_K size (lo := 1) (hi := k) (by unfold lim63; omega) (by omega) (by omega) h
      replace h := map_cons h; obtain ⟨a3, L3, rfl, h⟩ := h
      refine ⟨L3, ?_, h⟩
      unfold pSort
      rw [pHas_at, if_pos rfl, List.tail_cons, e2]
      dsimp only
      rw [pHas_at, if_pos rfl, List.tail_cons, Int.neg_neg]
    · obtain rfl : m = 0 := by omega
      refine ⟨L, ?_, h⟩
      unfold pSort
      rw [pHas_no h (head_lim n sSort (by decide))]
      rfl
theorem pQuery_K (size : Nat) {q : QI} (hq : fitI q = true) (hn : ∀ c ∈ q.whr, -lim63 ≤ c.num ∧ c.num < lim63) {L : List Tok} (h : L.map Prod.fst = qK q) : pQuery size L = .ok ⟨q.cols.map colZ, q.whr.map condZ, q.srt, q.lim⟩ := by
  obtain ⟨hh, h2, h3⟩ := fit_parts hq
  obtain ⟨cols, whr, srt, lim⟩ := q
  unfold fitHead at hh
  obtain ⟨a1, a2, a3, a4, a5, a6, a7⟩ := hh
  dsimp only at *
  cases cols with
  | nil => simp at a1
  | cons c cols =>
    unfold qK colsK at h
    dsimp only at h
    rw [List.append_assoc] at h
    obtain ⟨L1, e1, h⟩ := pRow_K size (pCol size) sComma colK colZ (fun a => fitC a = true) (fun a ha L T h => pCol_K size ha h) _ (head_whr whr srt lim sComma (by decide) (by decide) (by decide)) c cols L (by simpa using a2) h2 h
    have hW : ∃ L2, pWhere size L1 = .ok (whr.map condZ, L2) ∧ L2.map Prod.fst = srtK srt ++ limK lim := by
      cases whr with
      | nil =>
        refine ⟨L1, ?_, h⟩
        unfold pWhere
        rw [pHas_no h (head_srt srt lim sWhere (by decide) (by decide))]
        rfl
      | cons d whr =>
        unfold whrK at h
        rw [List.cons_append, List.append_assoc] at h
        replace h := map_cons h; obtain ⟨a2, L2, rfl, h⟩ := h
        obtain ⟨L3, e3, h⟩ := pRow_K size (pCond size) sAnd condK condZ (fun a => fitD a = true ∧ -lim63 ≤ a.num ∧ a.num < lim63) (fun a ha L T h => pCond_K size ha.1 ha.2 h) _ (head_srt srt lim sAnd (by decide) (by decide)) d whr L2 (by simpa using a3) (fun b hb => ⟨h3 b hb, hn b hb⟩) h
        refine ⟨L3, ?_, h⟩
        unfold pWhere
        rw [pHas_at, if_pos rfl, List.tail_cons, e3]
    obtain ⟨L2, e2, h⟩ := hW
    obtain ⟨L3, e3, h⟩ := pSort_K size (c :: cols).length srt lim a2 a4 a5 h
    have e4 := pLimit_K size lim a6 a7 h
    unfold pQuery
    rw [e1]
    dsimp only
    rw [e2]
    dsimp only
    rw [List.length_map, e3]
    dsimp only
    rw [e4]
    rfl
theorem parse_print {q : QI} (hq : fitI q = true) (hn : ∀ c ∈ q.whr, -lim63 ≤ c.num ∧ c.num < lim63) (hs : (printI q).size ≤ 4096) : ∃ z, parseZ (printI q) = .ok z ∧ z.i = q := by
  obtain ⟨l1, l2⟩ := lex_print hq
  refine ⟨⟨q.cols.map colZ, q.whr.map condZ, q.srt, q.lim⟩, ?_, ?_⟩
  · unfold parseZ
    rw [if_neg (by omega), l1]
    exact pQuery_K _ hq hn l2
  · obtain ⟨hh, h2, h3⟩ := fit_parts hq
    obtain ⟨cols, whr, srt, lim⟩ := q
    unfold QZ.i
    dsimp only at *
    rw [List.map_map, List.map_map]
    congr 1
    · have : ∀ c ∈ cols, (ColZ.i ∘ colZ) c = id c := fun c hc => colZ_i (h2 c hc)
      rw [List.map_congr_left this, List.map_id]
    · have : ∀ c ∈ whr, (CondZ.i ∘ condZ) c = id c := fun c hc => condZ_i (h3 c hc)
      rw [List.map_congr_left this, List.map_id]
theorem pCol_fit {size : Nat} {L L' : List Tok} {c : ColZ} (h : pCol size L = .ok (c, L')) : fitC c.i = true := by
  have hx : opOf L < 10 := by
    cases L with
    | nil => decide
    | cons t L =>
      rcases idxFrom_lt colW t.1 1 with h | h
      · show idxFrom colW t.1 1 < 10
        omega
      · exact h
  unfold pCol at h
  split at h
  · cases h
  · rename_i h0
    split at h
    · rename_i h6
      cases h
      unfold fitC ColZ.i
      simp only [Bool.and_eq_true, decide_eq_true_eq]
      refine ⟨by omega, by omega, ?_⟩
      rw [if_pos (by omega)]
      rfl
    · rename_i h6
      split at h
      · cases h
      · split at h
        · cases h
        · rename_i hN
          split at h
          · cases h
          · cases h
            unfold fitC ColZ.i
            simp only [Bool.and_eq_true, decide_eq_true_eq]
            refine ⟨by omega, by omega, ?_⟩
            rw [if_neg (by omega)]
            unfold pName at hN
            split at hN
            · cases hN
            · split at hN
              · rename_i hk
                cases hN
                exact hk
              · cases hN
theorem pNum_in {size : Nat} {lo hi n : Int} {L L' : List Tok} (h : pNum size lo hi L = .ok (n, L')) : lo ≤ n ∧ n ≤ hi := by
  unfold pNum at h
  split at h
  · cases h
  · split at h
    · cases h
    · split at h
      · rename_i hk
        cases h
        exact hk
      · cases h
theorem pCond_fit {size : Nat} {L L' : List Tok} {c : CondZ} (h : pCond size L = .ok (c, L')) : fitD c.i = true ∧ -lim63 ≤ c.i.num ∧ c.i.num < lim63 := by
  unfold pCond at h
  split at h
  · cases h
  · rename_i L1 hC
    have hc := pCol_fit hC
    split at h
    · cases h
    · rename_i h0
      have hx : cmpOf L1 < 7 := by
        cases L1 with
        | nil => decide
        | cons t L =>
          rcases idxFrom_lt cmpW t.1 1 with h | h
          · show idxFrom cmpW t.1 1 < 7
            omega
          · exact h
      split at h
      · cases h
      · rename_i hN
        have hr := pNum_in hN
        cases h
        refine ⟨?_, ?_⟩
        · unfold fitD CondZ.i
          simp only [Bool.and_eq_true, decide_eq_true_eq]
          exact ⟨hc, by omega, by omega⟩
        · unfold lim63 CondZ.i
          dsimp only
          omega
theorem pMore_fit {α : Type} {size : Nat} {one : List Tok → Res α} {s : ByteArray} (P : α → Prop) (hone : ∀ L a L', one L = .ok (a, L') → P a) : ∀ (n : Nat) (acc l : List α) (L L' : List Tok), pMore size one s n acc L = .ok (l, L') → (∀ a ∈ acc, P a) → (∀ a ∈ l, P a) ∧ l.length ≤ acc.length + n ∧ acc.length ≤ l.length := by
  intro n
  induction n with
  | zero =>
    intro acc l L L' h ha
    unfold pMore at h
    split at h
    · cases h
    · cases h
      exact ⟨ha, by omega, by omega⟩
  | succ n ih =>
    intro acc l L L' h ha
    unfold pMore at h
    split at h
    · split at h
      · cases h
      · rename_i a L2 h1
        obtain ⟨i1, i2, i3⟩ := ih _ _ _ _ h (by
          intro b hb
          rw [List.mem_append] at hb
          rcases hb with hb | hb
          · exact ha b hb
          · rw [List.mem_singleton] at hb
            subst hb
            exact hone _ _ _ h1)
        simp only [List.length_append, List.length_cons, List.length_nil] at i2 i3
        exact ⟨i1, by omega, by omega⟩
    · cases h
      exact ⟨ha, by omega, by omega⟩
theorem pRow_fit {α : Type} {size : Nat} {one : List Tok → Res α} {s : ByteArray} (P : α → Prop) (hone : ∀ L a L', one L = .ok (a, L') → P a) {l : List α} {L L' : List Tok} (h : pRow size one s L = .ok (l, L')) : (∀ a ∈ l, P a) ∧ l.length ≤ 16 ∧ 1 ≤ l.length := by
  unfold pRow at h
  split at h
  · cases h
  · rename_i a L2 h1
    obtain ⟨i1, i2, i3⟩ := pMore_fit P hone _ _ _ _ _ h (by
      intro b hb
      rw [List.mem_singleton] at hb
      subst hb
      exact hone _ _ _ h1)
    simp only [List.length_cons, List.length_nil] at i2 i3
    exact ⟨i1, by omega, by omega⟩
theorem parse_fit {s : ByteArray} {z : QZ} (h : parseZ s = .ok z) : fitI z.i = true ∧ ∀ c ∈ z.i.whr, -lim63 ≤ c.num ∧ c.num < lim63 := by
  unfold parseZ at h
  split at h
  · cases h
  · split at h
    · cases h
    · unfold pQuery at h
      split at h
      · cases h
      · rename_i cols L1 h1
        split at h
        · cases h
        · rename_i whr L2 h2
          split at h
          · cases h
          · rename_i srt L3 h3
            split at h
            · cases h
            · rename_i lim L4 h4
              split at h
              · cases h
              · cases h
                obtain ⟨c1, c2, c3⟩ := pRow_fit (fun c => fitC (ColZ.i c) = true) (fun _ _ _ h => pCol_fit h) h1
                have hw : (∀ a ∈ whr, fitD a.i = true ∧ -lim63 ≤ a.i.num ∧ a.i.num < lim63) ∧ whr.length ≤ 16 := by
                  unfold pWhere at h2
                  split at h2
                  · obtain ⟨d1, d2, d3⟩ := pRow_fit (fun a => fitD (CondZ.i a) = true ∧ -lim63 ≤ (CondZ.i a).num ∧ (CondZ.i a).num < lim63) (fun _ _ _ h => pCond_fit h) h2
                    exact ⟨d1, d2⟩
                  · cases h2
                    exact ⟨by simp, by simp⟩
                have hs : -(cols.length : Int) ≤ srt ∧ srt ≤ cols.length := by
                  unfold pSort at h3
                  split at h3
                  · split at h3
                    · cases h3
                    · rename_i h5
                      have := pNum_in h5
                      split at h3
                      · cases h3
                        omega
                      · cases h3
                        omega
                  · cases h3
                    omega
                have hl : 0 ≤ lim ∧ lim ≤ 1000 := by
                  unfold pLimit at h4
                  split at h4
                  · have := pNum_in h4
                    omega
                  · cases h4
                    omega
                refine ⟨?_, ?_⟩
                · unfold fitI QZ.i fitHead
                  simp only [Bool.and_eq_true, decide_eq_true_eq, List.all_eq_true, List.length_map]
                  refine ⟨⟨c3, c2, hw.2, hs.1, hs.2, hl.1, hl.2⟩, ?_, ?_⟩
                  · intro x hx
                    obtain ⟨y, hy, rfl⟩ := List.mem_map.1 hx
                    exact c1 y hy
                  · intro x hx
                    obtain ⟨y, hy, rfl⟩ := List.mem_map.1 hx
                    exact (hw.1 y hy).1
                · intro x hx
                  obtain ⟨y, hy, rfl⟩ := List.mem_map.1 hx
                  exact (hw.1 y hy).2
theorem pWant_err {size : Nat} {s : ByteArray} {L : List Tok} {p c : Nat} (h : pWant size s L = .error (p, c)) : c ≠ 0 := by
  unfold pWant at h
  split at h
  · cases h
  · cases h; decide
theorem pName_err {size : Nat} {L : List Tok} {p c : Nat} (h : pName size L = .error (p, c)) : c ≠ 0 := by
  unfold pName at h
  split at h
  · cases h; decide
  · split at h
    · cases h
    · cases h; decide
theorem pNum_err {size : Nat} {lo hi : Int} {L : List Tok} {p c : Nat} (h : pNum size lo hi L = .error (p, c)) : c ≠ 0 := by
  unfold pNum at h
  split at h
  · cases h; decide
  · split at h
    · cases h; decide
    · split at h
      · cases h
      · cases h; decide
theorem pCol_err {size : Nat} {L : List Tok} {p c : Nat} (h : pCol size L = .error (p, c)) : c ≠ 0 := by
  unfold pCol at h
  split at h
  · cases h; decide
  · split at h
    · cases h
    · split at h
      · rename_i h1
        cases h
        exact pWant_err h1
      · split at h
        · rename_i h1
          cases h
          exact pName_err h1
        · split at h
          · rename_i h1
            cases h
            exact pWant_err h1
          · cases h
theorem pCond_err {size : Nat} {L : List Tok} {p c : Nat} (h : pCond size L = .error (p, c)) : c ≠ 0 := by
  unfold pCond at h
  split at h
  · rename_i h1
    cases h
    exact pCol_err h1
  · split at h
    · cases h; decide
    · split at h
      · rename_i h1
        cases h
        exact pNum_err h1
      · cases h
theorem pMore_err {α : Type} {size : Nat} {one : List Tok → Res α} {s : ByteArray} (hone : ∀ L p c, one L = .error (p, c) → c ≠ 0) : ∀ (n : Nat) (acc : List α) (L : List Tok) (p c : Nat), pMore size one s n acc L = .error (p, c) → c ≠ 0 := by
  intro n
  induction n with
  | zero =>
    intro acc L p c h
    unfold pMore at h
    split at h
    · cases h; decide
    · cases h
  | succ n ih =>
    intro acc L p c h
    unfold pMore at h
    split at h
    · split at h
      · rename_i h1
        cases h
        exact hone _ _ _ h1
      · exact ih _ _ _ _ h
    · cases h
theorem pRow_err {α : Type} {size : Nat} {one : List Tok → Res α} {s : ByteArray} (hone : ∀ L p c, one L = .error (p, c) → c ≠ 0) {L : List Tok} {p c : Nat} (h : pRow size one s L = .error (p, c)) : c ≠ 0 := by
  unfold pRow at h
  split at h
  · rename_i h1
    cases h
    exact hone _ _ _ h1
  · exact pMore_err hone _ _ _ _ _ h
theorem parse_err {s : ByteArray} {p c : Nat} (h : parseZ s = .error (p, c)) : c ≠ 0 := by
  unfold parseZ at h
  split at h
  · cases h; decide
  · split at h
    · cases h; decide
    · unfold pQuery at h
      split at h
      · rename_i h1
        cases h
        exact pRow_err (fun _ _ _ h => pCol_err h) h1
      · split at h
        · rename_i h1
          cases h
          unfold pWhere at h1
          split at h1
          · exact pRow_err (fun _ _ _ h => pCond_err h) h1
          · cases h1
        · split at h
          · rename_i h1
            cases h
            unfold pSort at h1
            split at h1
            · split at h1
              · rename_i h2
                cases h1
                exact pNum_err h2
              · split at h1
                · cases h1
                · cases h1
            · cases h1
          · split at h
            · rename_i h1
              cases h
              unfold pLimit at h1
              split at h1
              · exact pNum_err h1
              · cases h1
            · split at h
              · rename_i h1
                cases h
                unfold pEnd at h1
                split at h1
                · cases h1
                · cases h1; decide
              · cases h
end Go.Proofs.YtkpholfdjgdjnaaGreatDoor
namespace Go.Proofs.YtkpholfdjgdjnaaGreatDoor
open Go Go.RowKit Go.Proofs Go.Shelf
theorem print_size {q : QI} (hf : fitI q = true) (hn : ∀ c ∈ q.whr, -lim63 ≤ c.num ∧ c.num < lim63) : (printI q).size ≤ 4096 := by
  obtain ⟨hh, hc, hd⟩ := fit_parts hf
  unfold fitHead at hh
  have h1 := ctxt_size q.cols hc hh.2.1
  have h2 := wtxt_size q.whr hd hn hh.2.2.1
  have hz1 : (itoaB q.srt).size ≤ 20 := itoaB_size (by unfold lim63; omega)
  have hz2 : (itoaB (-q.srt)).size ≤ 20 := itoaB_size (by unfold lim63; omega)
  have hz3 : (itoaB q.lim).size ≤ 20 := itoaB_size (by unfold lim63; omega)
  have e1 : bSort.size = 6 := rfl
  have e2 : bDown.size = 5 := rfl
  have e3 : bLimit.size = 7 := rfl
  have p2 : (prt2 q).size ≤ 1335 := by
    rw [prt2_w, ByteArray.size_append]
    unfold prt1
    omega
  have p3 : (prt3 q).size ≤ 1366 := by
    unfold prt3
    split
    · rw [ByteArray.size_append, ByteArray.size_append]
      omega
    · split
      · rw [ByteArray.size_append, ByteArray.size_append, ByteArray.size_append]
        omega
      · omega
  unfold printI
  rw [if_pos hf]
  unfold prt4
  split
  · rw [ByteArray.size_append, ByteArray.size_append]
    omega
  · omega
theorem readZ_print {q : QI} (hf : fitI q = true) (hn : ∀ c ∈ q.whr, -lim63 ≤ c.num ∧ c.num < lim63) : readZ (printI q) = (q, 0, 0) := by
  obtain ⟨z, h1, h2⟩ := parse_print hf hn (print_size hf hn)
  unfold readZ
  rw [h1]
  dsimp only
  rw [h2]
theorem readZ_cases (s : ByteArray) : (∃ q, readZ s = (q, 0, 0) ∧ fitI q = true ∧ ∀ c ∈ q.whr, -lim63 ≤ c.num ∧ c.num < lim63) ∨ (∃ p c : Int, readZ s = (⟨[], [], 0, 0⟩, p, c) ∧ c ≠ 0) := by
  rcases hz : parseZ s with ⟨p, c⟩ | z
  · refine .inr ⟨p, c, ?_, ?_⟩
    · unfold readZ
      rw [hz]
    · have := parse_err hz
      omega
  · obtain ⟨h1, h2⟩ := parse_fit hz
    refine .inl ⟨z.i, ?_, h1, h2⟩
    unfold readZ
    rw [hz]
theorem read_own (s : ByteArray) (q : QI) (w : World) (henv : Env w) (hz : ∃ z, parseZ s = .ok z ∧ z.i = q) : Calls Tryz.prog 8 #[.string s] w fun x w' => ∃ vC vW, x = .returned (.tuple #[qV vC vW q, .agg #[.int .i64 0, .int .i64 0]]) ∧
    w'.ownsRow w.heap.size 57 2 vC q.cols.length (colsIV q.cols) ∧ w'.ownsRow w.heap.size 59 4 vW q.whr.length (condsIV q.whr) ∧ Ext [] w w' := by
  obtain ⟨z, h1, rfl⟩ := hz
  refine (pparse_calls s w henv).mono ?_
  rintro x w' ⟨E, h⟩
  rw [h1] at h
  obtain ⟨vC, vW, rfl, hC, hW⟩ := h
  refine ⟨vC, vW, rfl, ?_, ?_, E⟩
  · rw [colsV_i] at hC
    simpa [QZ.i] using hC
  · rw [condsV_i] at hW
    simpa [QZ.i] using hW
theorem RowsAt.shapes {w : World} {vC vW : Value} {q : QI} (h : RowsAt w vC vW q) : ∃ AC cC AW cW, vC = .slice AC q.cols.length cC ∧ vW = .slice AW q.whr.length cW := by
  obtain ⟨AC, cC, rfl, _⟩ := h.rowC.shape
  obtain ⟨AW, cW, rfl, _⟩ := h.rowW.shape
  exact ⟨AC, cC, AW, cW, rfl, rfl⟩
theorem QAt.ra {w : World} {vC vW : Value} {q : QI} (h : QAt w vC vW q) : RowsAt w vC vW q := ⟨h.rowC, h.rowW⟩
set_option maxRecDepth 100000 in
set_option maxHeartbeats 4000000 in
theorem queryBack_calls (q : QI) (vC vW : Value) (s : ByteArray) (w : World) (henv : Env w) (h : QAt w vC vW q) (hnm : NamesOk q) :
    Calls Tryz.prog 6 #[qV vC vW q, .string s] w fun e w' => e = .returned (.bool true) ∧ Ext [] w w' := by
  have HE := Lib.hid henv
  have HQ := Lib.hid h
  have H13 : Hid (∀ W, Ext [] w W → Calls Tryz.prog 13 #[qV vC vW q] W fun e w' => e = .returned (.bool (fitI q)) ∧ Ext [] W w') := fun W e => rfit_calls q vC vW W (h.keep e) hnm
  have H14 : Hid (∀ W, Ext [] w W → Calls Tryz.prog 14 #[qV vC vW q] W fun e w' => e = .returned (.string (printI q)) ∧ Ext [] W w') := fun W e => pprint_calls q vC vW W (henv.ext e) (h.keep e)
  have H11 : Hid (∀ W, Ext [] w W → Calls Tryz.prog 11 #[] W fun e w' => e = .returned (.bool true) ∧ Ext [] W w') := fun W e => awake_calls W (henv.ext e)
  have H8 : Hid (∀ (u : ByteArray) W, Ext [] w W → Calls Tryz.prog 8 #[.string u] W fun x w' => ∃ vC vW, x = .returned (.tuple #[qV vC vW (readZ u).1, .agg #[.int .i64 (readZ u).2.1, .int .i64 (readZ u).2.2]]) ∧ RowsAt w' vC vW (readZ u).1 ∧ Ext [] W w') := fun u W e => read_prog u W (henv.ext e)
  have HN := Lib.hid h.nums
  obtain ⟨AC, capC, AW, capW, rfl, rfl⟩ := h.rows
  clear h hnm henv
  have B1 := Blk.new w [.slice AC q.cols.length capC, .slice AW q.whr.length capW, .int .i64 q.srt, .int .i64 q.lim] 25
  have E1 : Ext [] w (w.alloc (.cells [.slice AC q.cols.length capC, .slice AW q.whr.length capW, .int .i64 q.srt, .int .i64 q.lim].toArray 25)) := (Ext.refl [] w).alloc _
  have HB1 := Lib.hid B1
  clear B1
  unfold qV at H13 H14
  unfold qV
  go_enter Tryz.func6, Tryz.ntmps6
  go_upto_if 13 with (go_at_call 13; refine (H13.out _ E1).mono ?_; rintro e w2 ⟨rfl, E2⟩)
  have B2 := Lib.hid (HB1.out.ext E2 (by simp))
  have E02 := E1.trans E2
  go_cut [] (fun W => Ext [] w2 W)
  case first =>
    rcases hf : fitI q with _ | _
    · clear hf
      go_wp2_with fail
      go_meet
      case rel => exact Ext.refl _ _
    · have HR := Lib.hid (readZ_print hf HN.out)
      have hps := print_size hf HN.out
      clear hf
      generalize printI q = P at *
      have b0 := B2.out.cell 0
      have b1 := B2.out.cell 1
      have b2 := B2.out.cell 2
      have b3 := B2.out.cell 3
      simp only [List.getElem?_cons_zero, List.getElem?_cons_succ] at b0 b1 b2 b3
      have h8 := H8.out P
      rw [HR.out] at h8
      dsimp only at h8
      have h8' := Lib.hid h8
      clear h8
      go_upto_region 3 with (go_at_call 14; refine (H14.out _ E02).mono ?_; rintro e w3 ⟨rfl, E3⟩)
      have E03 := E02.trans E3
      clear b0 b1 b2 b3
      go_upto_region 4 with (go_at_call 8; refine (h8'.out _ E03).mono ?_; rintro e w4 ⟨uC, uW, rfl, hr, E4⟩; obtain ⟨BC, dC, BW, dW, rfl, rfl⟩ := hr.shapes; have HA := Lib.hid hr; unfold qV; clear hr)
      have BQ := (Blk.new w4 [.slice BC q.cols.length dC, .slice BW q.whr.length dW, .int .i64 q.srt, .int .i64 q.lim] 25).alloc (.cells #[.int .i64 0, .int .i64 0] 28)
      have BM := Blk.new (w4.alloc (.cells [.slice BC q.cols.length dC, .slice BW q.whr.length dW, .int .i64 q.srt, .int .i64 q.lim].toArray 25)) [.int .i64 0, .int .i64 0] 28
      rw [World.size_alloc] at BM
      have E5 : Ext [] w4 ((w4.alloc (.cells [.slice BC q.cols.length dC, .slice BW q.whr.length dW, .int .i64 q.srt, .int .i64 q.lim].toArray 25)).alloc (.cells #[.int .i64 0, .int .i64 0] 28)) := ((Ext.refl [] w4).alloc _).alloc _
      generalize ((w4.alloc (.cells [.slice BC q.cols.length dC, .slice BW q.whr.length dW, .int .i64 q.srt, .int .i64 q.lim].toArray 25)).alloc (.cells #[.int .i64 0, .int .i64 0] 28)) = w5 at *
      have E25 : Ext [] w2 w5 := (E3.trans E4).trans E5
      have E05 := E02.trans E25
      have B5 := B2.out.ext E25 (by simp)
      have b0 := B5.cell 0
      have b1 := B5.cell 1
      have b2 := B5.cell 2
      have b3 := B5.cell 3
      have a0 := BQ.cell 0
      have a1 := BQ.cell 1
      have a2 := BQ.cell 2
      have a3 := BQ.cell 3
      obtain ⟨m0, m1⟩ := BM.two
      simp only [List.getElem?_cons_zero, List.getElem?_cons_succ] at a0 a1 a2 a3 b0 b1 b2 b3
      have hS := Lib.hid (same_calls w5 _ _ _ _ q (HA.out.keep E5) (HQ.out.ra.keep E05))
      unfold qV at hS
      have hP' : (P.size : Int) ≤ 4096 := by omega
      clear B5 BQ BM
      go_wp2_with (go_at_call 10; refine hS.out.mono ?_; rintro e w6 ⟨rfl, E6⟩)
      go_meet
      case rel => exact E25.trans E6
  case rest =>
    have E2c := hcut
    clear hcut B2 HN HQ H13 H14 HB1
    have E0c := E02.trans E2c
    rcases readZ_cases s with ⟨q2, hr, hf, hn⟩ | ⟨pl, cd, hr, hc⟩
    · have hps := print_size hf hn
      have HPZ := Lib.hid (parse_print hf hn hps)
      have HN2 := Lib.hid hn
      have HF := Lib.hid hf
      have h8 := H8.out s
      rw [hr] at h8
      dsimp only at h8
      have h8s := Lib.hid h8
      have h8p : Hid (∀ W, Ext [] w W → Calls Tryz.prog 8 #[.string (printI q2)] W fun x w' => ∃ vC vW, x = .returned (.tuple #[qV vC vW q2, .agg #[.int .i64 0, .int .i64 0]]) ∧
          w'.ownsRow W.heap.size 57 2 vC q2.cols.length (colsIV q2.cols) ∧ w'.ownsRow W.heap.size 59 4 vW q2.whr.length (condsIV q2.whr) ∧ Ext [] W w') := fun W e => read_own (printI q2) q2 W (HE.out.ext e) HPZ.out
      clear h8 hr hf hn H8 HPZ
      go_upto_region 7 with (go_at_call 8; refine (h8s.out _ E0c).mono ?_; rintro e w4 ⟨uC, uW, rfl, hr, E4⟩; obtain ⟨BC, dC, BW, dW, rfl, rfl⟩ := hr.shapes; have HA := Lib.hid hr; unfold qV; clear hr)
      have BQ := (Blk.new w4 [.slice BC q2.cols.length dC, .slice BW q2.whr.length dW, .int .i64 q2.srt, .int .i64 q2.lim] 25).alloc (.cells #[.int .i64 0, .int .i64 0] 28)
      have BM := Blk.new (w4.alloc (.cells [.slice BC q2.cols.length dC, .slice BW q2.whr.length dW, .int .i64 q2.srt, .int .i64 q2.lim].toArray 25)) [.int .i64 0, .int .i64 0] 28
      rw [World.size_alloc] at BM
      have E5 : Ext [] w4 ((w4.alloc (.cells [.slice BC q2.cols.length dC, .slice BW q2.whr.length dW, .int .i64 q2.srt, .int .i64 q2.lim].toArray 25)).alloc (.cells #[.int .i64 0, .int .i64 0] 28)) := ((Ext.refl [] w4).alloc _).alloc _
      generalize ((w4.alloc (.cells [.slice BC q2.cols.length dC, .slice BW q2.whr.length dW, .int .i64 q2.srt, .int .i64 q2.lim].toArray 25)).alloc (.cells #[.int .i64 0, .int .i64 0] 28)) = w5 at *
      have E04 : Ext [] w w4 := E0c.trans E4
      have HQ4 := Lib.hid (QAt.mk HA.out.rowC HA.out.rowW HN2.out)
      have H14 : Hid (∀ W, Ext [] w4 W → Calls Tryz.prog 14 #[qV (.slice BC q2.cols.length dC) (.slice BW q2.whr.length dW) q2] W fun e w' => e = .returned (.string (printI q2)) ∧ Ext [] W w') := fun W e => pprint_calls q2 _ _ W (HE.out.ext (E04.trans e)) (HQ4.out.keep e)
      have H12 : Hid (∀ W, Ext [] w4 W → Calls Tryz.prog 12 #[qV (.slice BC q2.cols.length dC) (.slice BW q2.whr.length dW) q2] W fun e w' => e = .returned (.bool true) ∧ Ext [] W w') := fun W e => by
        have := pfit_calls q2 _ _ W (HQ4.out.keep e)
        rw [HF.out] at this
        exact this
      have H10 : Hid (∀ W (uA uB : Value), Ext [] w4 W → RowsAt W uA uB q2 → Calls Tryz.prog 10 #[qV (.slice BC q2.cols.length dC) (.slice BW q2.whr.length dW) q2, qV uA uB q2] W fun e w' => e = .returned (.bool true) ∧ Ext [] W w') := fun W uA uB e h => same_calls W _ _ _ _ q2 (HA.out.keep e) h
      have H14y : Hid (∀ W (uA uB : Value), Ext [] w4 W → RowsAt W uA uB q2 → Calls Tryz.prog 14 #[qV uA uB q2] W fun e w' => e = .returned (.string (printI q2)) ∧ Ext [] W w') := fun W uA uB e h => pprint_calls q2 _ _ W (HE.out.ext (E04.trans e)) (QAt.mk h.rowC h.rowW HN2.out)
      unfold qV at H14 H12 H10 H14y
      clear HA
      have HBQ := Lib.hid BQ
      have HBM := Lib.hid BM
      have a0 := BQ.cell 0
      have a1 := BQ.cell 1
      have a2 := BQ.cell 2
      have a3 := BQ.cell 3
      obtain ⟨m0, m1⟩ := BM.two
      simp only [List.getElem?_cons_zero, List.getElem?_cons_succ] at a0 a1 a2 a3
      generalize hxb : w4.heap.size = xb at *
      have HX := Lib.hid hxb
      clear hxb BQ BM
      go_upto_region 10 with (go_at_call 14; refine (H14.out _ E5).mono ?_; rintro e w6 ⟨rfl, E6⟩)
      generalize hP : printI q2 = P at *
      clear hP
      have hP' : (P.size : Int) ≤ 4096 := by omega
      clear a0 a1 a2 a3 m0 m1
      have E46 := E5.trans E6
      go_upto_region 13 with (go_at_call 8; refine (h8p.out _ (E04.trans E46)).mono ?_; rintro e w7 ⟨tC, tW, rfl, hC, hW, E7⟩; obtain ⟨CC, eC, rfl⟩ := ownsRow_shape hC; obtain ⟨CW, eW, rfl⟩ := ownsRow_shape hW; have HYC := Lib.hid hC; have HYW := Lib.hid hW; unfold qV; clear hC hW; have BM7 := HBM.out.ext (E6.trans E7) (by simp); obtain ⟨m0, m1⟩ := BM7.two; have mf0 := BM7.frozen 0; have mf1 := BM7.frozen 1; have mlt := BM7.lt)
      have E47 := E46.trans E7
      have hx4 : w4.heap.size ≤ xb + 1 := by have := HX.out; omega
      have hx6 : xb + 1 < w6.heap.size := (HBM.out.ext E6 (by simp)).lt
      have E48 : Ext [] w4 (((w7.setCell ⟨xb + 1, 0, none⟩ (.int .i64 0)).setCell ⟨xb + 1, 1, none⟩ (.int .i64 0)).alloc (.cells #[.slice CC q2.cols.length eC, .slice CW q2.whr.length eW, .int .i64 q2.srt, .int .i64 q2.lim] 25)) := ((E47.setCell ⟨xb + 1, 0, none⟩ (.inr hx4) _).setCell ⟨xb + 1, 1, none⟩ (.inr hx4) _).alloc _
      have E78 : Ext [xb + 1] w7 (((w7.setCell ⟨xb + 1, 0, none⟩ (.int .i64 0)).setCell ⟨xb + 1, 1, none⟩ (.int .i64 0)).alloc (.cells #[.slice CC q2.cols.length eC, .slice CW q2.whr.length eW, .int .i64 q2.srt, .int .i64 q2.lim] 25)) := (((Ext.refl _ w7).setCell ⟨xb + 1, 0, none⟩ (.inl (by simp)) _).setCell ⟨xb + 1, 1, none⟩ (.inl (by simp)) _).alloc _
      have BM8 := ((BM7.set 0 (.int .i64 0)).set 1 (.int .i64 0)).alloc (.cells #[.slice CC q2.cols.length eC, .slice CW q2.whr.length eW, .int .i64 q2.srt, .int .i64 q2.lim] 25)
      simp only [List.set_cons_zero, List.set_cons_succ] at BM8
      have BX8 := (HBQ.out.ext (E6.trans E7) (by simp)).ext E78 (by simp)
      have BY8 := Blk.new ((w7.setCell ⟨xb + 1, 0, none⟩ (.int .i64 0)).setCell ⟨xb + 1, 1, none⟩ (.int .i64 0)) [.slice CC q2.cols.length eC, .slice CW q2.whr.length eW, .int .i64 q2.srt, .int .i64 q2.lim] 25
      have hsz : ((w7.setCell ⟨xb + 1, 0, none⟩ (.int .i64 0)).setCell ⟨xb + 1, 1, none⟩ (.int .i64 0)).heap.size = w7.heap.size := by simp
      rw [hsz] at BY8
      have RY := Lib.hid (RowsAt.mk (Row.of_own (ownsRow_ext HYC.out E78 (by intro b hb; simp at hb; omega))) (Row.of_own (ownsRow_ext HYW.out E78 (by intro b hb; simp at hb; omega))))
      clear hsz E78 BM7 m0 m1 mf0 mf1 mlt HYC HYW
      generalize hyb : w7.heap.size = yb at *
      clear hyb
      generalize (((w7.setCell ⟨xb + 1, 0, none⟩ (.int .i64 0)).setCell ⟨xb + 1, 1, none⟩ (.int .i64 0)).alloc (.cells #[.slice CC q2.cols.length eC, .slice CW q2.whr.length eW, .int .i64 q2.srt, .int .i64 q2.lim] 25)) = w8 at *
      have a0 := BX8.cell 0
      have a1 := BX8.cell 1
      have a2 := BX8.cell 2
      have a3 := BX8.cell 3
      simp only [List.getElem?_cons_zero, List.getElem?_cons_succ] at a0 a1 a2 a3
      have HX8 := Lib.hid BX8
      have HM8 := Lib.hid BM8
      have HY8 := Lib.hid BY8
      clear BX8 BM8 BY8
      have hpp : (P.toList == P.toList) = true := by simp
      go_wp2_with (first
        | (go_at_call 12; refine (H12.out _ E48).mono ?_; rintro e w9 ⟨rfl, E9⟩; have BX9 := HX8.out.ext E9 (by simp); have BM9 := HM8.out.ext E9 (by simp); have BY9 := HY8.out.ext E9 (by simp); have x0 := BX9.cell 0; have x1 := BX9.cell 1; have x2 := BX9.cell 2; have x3 := BX9.cell 3; have y0 := BY9.cell 0; have y1 := BY9.cell 1; have y2 := BY9.cell 2; have y3 := BY9.cell 3; obtain ⟨m0, m1⟩ := BM9.two; simp only [List.getElem?_cons_zero, List.getElem?_cons_succ] at x0 x1 x2 x3 y0 y1 y2 y3; have HY9 := Lib.hid BY9; clear BX9 BM9 BY9)
        | (go_at_call 10; refine (H10.out _ _ _ (E48.trans E9) (RY.out.keep E9)).mono ?_; rintro e w10 ⟨rfl, E10⟩; have BY10 := HY9.out.ext E10 (by simp); have z0 := BY10.cell 0; have z1 := BY10.cell 1; have z2 := BY10.cell 2; have z3 := BY10.cell 3; simp only [List.getElem?_cons_zero, List.getElem?_cons_succ] at z0 z1 z2 z3; clear BY10)
        | (go_at_call 14; refine (H14y.out _ _ _ ((E48.trans E9).trans E10) ((RY.out.keep E9).keep E10)).mono ?_; rintro e w11 ⟨rfl, E11⟩)
        | (go_at_call 11; refine (H11.out _ (E04.trans (((E48.trans E9).trans E10).trans E11))).mono ?_; rintro e w12 ⟨rfl, E12⟩))
      go_ret
      exact ⟨rfl, E04.trans ((((E48.trans E9).trans E10).trans E11).trans E12)⟩
    · have h8 := H8.out s
      rw [hr] at h8
      dsimp only at h8
      have h8s := Lib.hid h8
      have hcb : (cd == 0) = false := by simpa using hc
      have hcn : (cd != 0) = true := by simpa using hc
      clear h8 hr H8
      go_upto_region 7 with (go_at_call 8; refine (h8s.out _ E0c).mono ?_; rintro e w4 ⟨uC, uW, rfl, hr, E4⟩; obtain ⟨BC, dC, BW, dW, rfl, rfl⟩ := hr.shapes; unfold qV; clear hr)
      try simp only [List.length_nil]
      have BQ := (Blk.new w4 [.slice BC 0 dC, .slice BW 0 dW, .int .i64 0, .int .i64 0] 25).alloc (.cells #[.int .i64 pl, .int .i64 cd] 28)
      have BM := Blk.new (w4.alloc (.cells [.slice BC 0 dC, .slice BW 0 dW, .int .i64 0, .int .i64 0].toArray 25)) [.int .i64 pl, .int .i64 cd] 28
      rw [World.size_alloc] at BM
      have E5 : Ext [] w4 ((w4.alloc (.cells [.slice BC 0 dC, .slice BW 0 dW, .int .i64 0, .int .i64 0].toArray 25)).alloc (.cells #[.int .i64 pl, .int .i64 cd] 28)) := ((Ext.refl [] w4).alloc _).alloc _
      generalize ((w4.alloc (.cells [.slice BC 0 dC, .slice BW 0 dW, .int .i64 0, .int .i64 0].toArray 25)).alloc (.cells #[.int .i64 pl, .int .i64 cd] 28)) = w5 at *
      have E05 : Ext [] w w5 := (E0c.trans E4).trans E5
      have a0 := BQ.cell 0
      obtain ⟨m0, m1⟩ := BM.two
      simp only [List.getElem?_cons_zero, List.getElem?_cons_succ] at a0
      clear BQ BM
      go_wp2_with (go_at_call 11; refine (H11.out _ E05).mono ?_; rintro e w6 ⟨rfl, E6⟩)
      go_ret
      exact ⟨by rw [← hcn]; rfl, E05.trans E6⟩
end Go.Proofs.YtkpholfdjgdjnaaGreatDoor
