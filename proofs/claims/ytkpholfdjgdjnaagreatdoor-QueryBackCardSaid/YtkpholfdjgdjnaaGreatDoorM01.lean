/- Texts of the claim, joined: B P P2 P3 L W. -/
import Derived.WalkKit
import Derived.WalkSpells
import Derived.WalkLawsBesides
import Derived.Deep.QuietTactic
import Derived.BigQuiet
import Derived.KernelRfl
import Derived.Lib.Hide
import Derived.Test.YtkpholfdjgdjnaaGreatDoorProg
import Derived.Deep.LoopGhost
import Derived.Maps.AppendAt
namespace Go.Proofs.YtkpholfdjgdjnaaGreatDoor
open Go Go.RowKit
theorem ret_int {k : IntKind} {a b : Int} (h : a = b) : Ending.returned (.int k a) = .returned (.int k b) := by rw [h]
theorem ret_bool {a b : Bool} (h : a = b) : Ending.returned (.bool a) = .returned (.bool b) := by rw [h]
theorem ret_val {a b : Value} (h : a = b) : Ending.returned a = .returned b := by rw [h]
def bt (s : ByteArray) (i : Nat) : Int := if h : i < s.size then ((s[i]'h).toNat : Int) else 0
theorem bt_at (s : ByteArray) (i : Nat) : ∀ h : i < s.size, ((s[i]'h).toNat : Int) = bt s i := fun h => by simp [bt, h]
theorem bt_range (s : ByteArray) (i : Nat) : 0 ≤ bt s i ∧ bt s i ≤ 255 := by
  unfold bt
  split
  · rename_i h
    have := (s[i]'h).toNat_lt
    omega
  · omega
theorem str_eq (a b : ByteArray) : (a.toList == b.toList) = decide (a = b) := by
  rw [Bool.eq_iff_iff, beq_iff_eq, decide_eq_true_eq, ByteArray.toList_eq, ByteArray.toList_eq]
  exact ⟨fun h => ByteArray.ext (Array.toList_inj.mp h), fun h => by rw [h]⟩
theorem str_yes {a b : ByteArray} (h : (a.toList == b.toList) = true) : a = b := by rw [str_eq] at h; exact of_decide_eq_true h
theorem str_no {a b : ByteArray} (h : (a.toList == b.toList) = false) : a ≠ b := by rw [str_eq] at h; exact of_decide_eq_false h
structure Ext (S : List Nat) (w w' : World) : Prop where
  os : w'.os = w.os
  tape : w'.tape = w.tape
  output : w'.output = w.output
  size : w.heap.size ≤ w'.heap.size
  block : ∀ k, k < w.heap.size → k ∉ S → w'.heap[k]? = w.heap[k]?
theorem Ext.refl (S : List Nat) (w : World) : Ext S w w := ⟨rfl, rfl, rfl, Nat.le_refl _, fun _ _ _ => rfl⟩
theorem Ext.trans {S : List Nat} {a b c : World} (h : Ext S a b) (k : Ext S b c) : Ext S a c :=
  ⟨k.os.trans h.os, k.tape.trans h.tape, k.output.trans h.output, Nat.le_trans h.size k.size, fun i hi hS => (k.block i (Nat.lt_of_lt_of_le hi h.size) hS).trans (h.block i hi hS)⟩
theorem Ext.mono {S T : List Nat} {a b : World} (h : Ext S a b) (hS : ∀ x, x ∈ S → x ∈ T) : Ext T a b :=
  ⟨h.os, h.tape, h.output, h.size, fun i hi hT => h.block i hi (fun hs => hT (hS _ hs))⟩
theorem Ext.step {S T : List Nat} {a b c : World} (h : Ext S a b) (k : Ext T b c) (hT : ∀ x, x ∈ T → x ∈ S ∨ a.heap.size ≤ x) : Ext S a c :=
  ⟨k.os.trans h.os, k.tape.trans h.tape, k.output.trans h.output, Nat.le_trans h.size k.size, fun i hi hS =>
    (k.block i (Nat.lt_of_lt_of_le hi h.size) (fun ht => (hT _ ht).elim hS (fun hle => Nat.lt_irrefl _ (Nat.lt_of_lt_of_le hi hle)))).trans (h.block i hi hS)⟩
theorem Ext.drew {S : List Nat} {a w : World} (h : Ext S a w) : Ext S a w.drew := ⟨h.os, h.tape, h.output, h.size, h.block⟩
theorem Ext.drewN {S : List Nat} {a w : World} (h : Ext S a w) (n : Nat) : Ext S a (w.drewN n) := ⟨h.os, h.tape, h.output, h.size, h.block⟩
theorem Ext.alloc {S : List Nat} {a w : World} (h : Ext S a w) (o : Obj) : Ext S a (w.alloc o) :=
  ⟨h.os, h.tape, h.output, by simp; exact Nat.le_succ_of_le h.size, fun i hi hS => by
    show (w.heap.push o)[i]? = _
    rw [Array.getElem?_push, if_neg (by have := h.size; omega)]
    exact h.block i hi hS⟩
theorem Ext.setCell {S : List Nat} {a w : World} (h : Ext S a w) (p : Addr) (hp : p.block ∈ S ∨ a.heap.size ≤ p.block) (u : Value) : Ext S a (w.setCell p u) :=
  ⟨h.os, h.tape, h.output, by simpa using h.size, fun i hi hS => by
    simp only [World.setCell, Array.getElem?_modify]
    have hne : p.block ≠ i := by
      rintro rfl
      rcases hp with h1 | h1
      · exact hS h1
      · omega
    rw [if_neg hne]
    exact h.block i hi hS⟩
theorem Ext.of_below {a w : World} (h : Below a.heap.size a w) : Ext [] a w := ⟨h.os, h.tape, h.output, h.size, fun i hi _ => h.block i hi⟩
theorem Ext.below {a w : World} (h : Ext [] a w) : Below a.heap.size a w := ⟨h.os, h.tape, h.output, h.size, fun i hi => h.block i hi (by simp)⟩
theorem Ext.nil {S : List Nat} {a w : World} (h : Ext [] a w) : Ext S a w := h.mono (by simp)
theorem Ext.grown {S : List Nat} {a w w' : World} {row : Option Nat} (h : Ext S a w) (hg : w.grownBy w' row) (hr : ∀ k, row = some k → k ∈ S ∨ a.heap.size ≤ k) : Ext S a w' :=
  ⟨hg.os.trans h.os, hg.tape.trans h.tape, hg.output.trans h.output, Nat.le_trans h.size hg.size, fun i hi hS =>
    (hg.block i (Nat.lt_of_lt_of_le hi h.size) (fun e => (hr i e.symm).elim hS (fun hle => Nat.lt_irrefl _ (Nat.lt_of_lt_of_le hi hle)))).trans (h.block i hi hS)⟩
theorem Ext.cell {S : List Nat} {w w' : World} (h : Ext S w w') {p : Addr} (hp : p.block < w.heap.size) (hS : p.block ∉ S) : w'.cell? p = w.cell? p := World.cell?_of_block (w := w) (h.block p.block hp hS)
theorem Ext.frozen {S : List Nat} {w w' : World} (h : Ext S w w') {p : Addr} (hp : p.block < w.heap.size) (hS : p.block ∉ S) : w'.frozen? p = w.frozen? p := World.frozen?_of_block (w := w) (h.block p.block hp hS)
theorem Ext.keeps {S : List Nat} {w w' : World} (h : Ext S w w') {p : Addr} {v : Value} (hc : w.cell? p = some v) (hS : p.block ∉ S) : w'.cell? p = some v :=
  (h.cell (World.block_lt_of_cell? w p hc) hS).trans hc
theorem Ext.grownBy {S : List Nat} {w w' : World} (h : Ext S w w') (row : Option Nat) (hS : ∀ x, x ∈ S → row = some x) : w.grownBy w' row :=
  ⟨h.os, h.tape, h.output, h.size, fun i hi hne => h.block i hi (fun hs => hne (hS i hs).symm)⟩
def Blk (w : World) (b : Nat) (c : List Value) (t : TypeId) : Prop := w.heap[b]? = some (.cells c.toArray t (0, 0))
theorem Blk.lt {w : World} {b : Nat} {c : List Value} {t : TypeId} (h : Blk w b c t) : b < w.heap.size := (Array.getElem?_eq_some_iff.1 h).1
theorem Blk.cell {w : World} {b : Nat} {c : List Value} {t : TypeId} (h : Blk w b c t) (i : Nat) : w.cell? ⟨b, i, none⟩ = c[i]? := by
  unfold Blk at h
  simp [World.cell?, h]
theorem Blk.frozen {w : World} {b : Nat} {c : List Value} {t : TypeId} (h : Blk w b c t) (i : Nat) : w.frozen? ⟨b, i, none⟩ = false := by
  unfold Blk at h
  simp [World.frozen?, h]
theorem Blk.ext {S : List Nat} {w w' : World} {b : Nat} {c : List Value} {t : TypeId} (h : Blk w b c t) (e : Ext S w w') (hS : b ∉ S) : Blk w' b c t :=
  (e.block b h.lt hS).trans h
theorem Blk.drew {w : World} {b : Nat} {c : List Value} {t : TypeId} (h : Blk w b c t) : Blk w.drew b c t := h
theorem Blk.new (w : World) (c : List Value) (t : TypeId) : Blk (w.alloc (.cells c.toArray t)) w.heap.size c t := by
  show (w.heap.push _)[w.heap.size]? = _
  simp
theorem Blk.alloc {w : World} {b : Nat} {c : List Value} {t : TypeId} (h : Blk w b c t) (o : Obj) : Blk (w.alloc o) b c t := h.ext ((Ext.refl [] w).alloc o) (by simp)
theorem Blk.set {w : World} {b : Nat} {c : List Value} {t : TypeId} (h : Blk w b c t) (i : Nat) (v : Value) : Blk (w.setCell ⟨b, i, none⟩ v) b (c.set i v) t := by
  unfold Blk at *
  simp [World.setCell, Array.getElem?_modify, h]
theorem Blk.set_other {w : World} {b : Nat} {c : List Value} {t : TypeId} (h : Blk w b c t) (p : Addr) (hp : p.block ≠ b) (v : Value) : Blk (w.setCell p v) b c t := by
  unfold Blk at *
  simp only [World.setCell, Array.getElem?_modify]
  rw [if_neg hp]
  exact h
theorem add_at (g i j : Nat) : (⟨g, i, none⟩ : Addr).add j = ⟨g, i + j, none⟩ := by
  unfold Addr.add
  split <;> simp_all
theorem cells_new (w : World) (l : List Value) (t : TypeId) : ∀ j u, l[j]? = some u → (w.alloc (.cells l.toArray t)).cell? ((⟨w.heap.size, 0, none⟩ : Addr).add j) = some u := by
  intro j u hu
  rw [add_at, Nat.zero_add, World.cell?_alloc_new]
  simpa using hu
theorem quietC {P : Program} {f : FuncId} {args : Array Value} {w : World} {a n : Nat} {v : Value}
    (h : ∀ W : World, W = w.drewN (a + n) → Calls P f args W fun e w' => e = .returned v ∧ Ext [] W w' ∧ ∃ m, w' = W.drewN m) :
    Calls P f args (w.drewN (a + n)) fun e w'' => e = .returned v ∧ ∃ m, w'' = w.drewN (a + m) :=
  (h _ rfl).mono fun _ _ ⟨he, _, m, hm⟩ => ⟨he, n + m, by rw [hm, World.drewN_drewN, Nat.add_assoc]⟩
theorem quietL {P : Program} {f : FuncId} {args : Array Value} {w : World} {a n : Nat} {v : Value}
    (h : Calls P f args (w.drewN (a + n)) fun e w' => e = .returned v ∧ w.drewN (a + n) = w') :
    Calls P f args (w.drewN (a + n)) fun e w'' => e = .returned v ∧ ∃ m, w'' = w.drewN (a + m) :=
  h.mono fun _ _ ⟨he, hm⟩ => ⟨he, n, hm.symm⟩
theorem quietL0 {P : Program} {f : FuncId} {args : Array Value} {w : World} {n : Nat} {v : Value}
    (h : Calls P f args (w.drewN n) fun e w' => e = .returned v ∧ w.drewN n = w') :
    Calls P f args (w.drewN n) fun e w'' => e = .returned v ∧ ∃ m, w'' = w.drewN m :=
  h.mono fun _ _ ⟨he, hm⟩ => ⟨he, n, hm.symm⟩
theorem ownsRow_lit (w : World) (base : Nat) (e : TypeId) (size n : Nat) (xs : List Value) (hb : base ≤ w.heap.size) (hm : n ≤ maxLen) (hs : xs.length = n * size) :
    (w.alloc (.cells xs.toArray e)).ownsRow base e size (.slice (some ⟨w.heap.size, 0, none⟩) n n) n xs :=
  ⟨hs, .inr ⟨w.heap.size, n, xs.toArray, rfl, hb, by show (w.heap.push _)[w.heap.size]? = _; simp, Nat.le_refl _, hm, by simpa using hs, by rw [← hs]; simp⟩⟩
theorem ownsRow_ext {S : List Nat} {w w' : World} {base : Nat} {e : TypeId} {size : Nat} {v : Value} {n : Nat} {xs : List Value} (h : w.ownsRow base e size v n xs) (x : Ext S w w') (hS : ∀ b ∈ S, b < base) : w'.ownsRow base e size v n xs := by
  refine ⟨h.1, ?_⟩
  rcases h.2 with hn | ⟨g, cap, cur, rfl, hb, hgg, rest⟩
  · exact .inl hn
  · refine .inr ⟨g, cap, cur, rfl, hb, ?_, rest⟩
    rw [x.block g (Array.getElem?_eq_some_iff.1 hgg).1 (fun hg => by have := hS g hg; omega)]
    exact hgg
def Row (w : World) (v : Value) (n : Nat) (cs : List Value) : Prop :=
  ∃ A cap, v = .slice A n cap ∧ n ≤ 9223372036854775807 ∧ (cs ≠ [] → ∃ b o, A = some ⟨b, o, none⟩ ∧ ∀ j, j < cs.length → w.cell? ⟨b, o + j, none⟩ = some (cs[j]?.getD undef))
theorem Row.ext {S : List Nat} {w w' : World} {v : Value} {n : Nat} {cs : List Value} (h : Row w v n cs) (e : Ext S w w') (hS : ∀ b o c, v = .slice (some ⟨b, o, none⟩) n c → b ∉ S) : Row w' v n cs := by
  obtain ⟨A, cap, rfl, hn, hc⟩ := h
  refine ⟨A, cap, rfl, hn, fun hne => ?_⟩
  obtain ⟨b, o, rfl, hcell⟩ := hc hne
  exact ⟨b, o, rfl, fun j hj => e.keeps (hcell j hj) (hS b o cap rfl)⟩
end Go.Proofs.YtkpholfdjgdjnaaGreatDoor
namespace Go.Proofs.YtkpholfdjgdjnaaGreatDoor
open Go Go.RowKit
def blankZ (c : Int) : Bool := c == 32 || c == 9 || c == 10 || c == 13
def wordZ (c : Int) : Bool := (decide (97 ≤ c) && decide (c ≤ 122)) || (decide (48 ≤ c) && decide (c ≤ 57)) || (c == 95) || (c == 45)
def wl (s : ByteArray) (i : Nat) : Nat := if h : i < s.size then (if wordZ (bt s i) then wl s (i + 1) + 1 else 0) else 0
termination_by s.size - i
theorem wl_le (s : ByteArray) (i : Nat) : wl s i ≤ s.size - i := by
  induction h : s.size - i generalizing i with
  | zero => rw [wl, dif_neg (by omega)]; omega
  | succ n ih =>
    rw [wl, dif_pos (by omega)]
    split
    · have := ih (i + 1) (by omega)
      omega
    · omega
def sg (s : ByteArray) (i : Nat) : Nat :=
  if bt s i == 40 || bt s i == 41 || bt s i == 44 || bt s i == 61 then 1
  else if bt s i == 60 || bt s i == 62 then (if bt s (i + 1) == 61 then 2 else 1)
  else if bt s i == 33 then (if bt s (i + 1) == 61 then 2 else 0) else 0
theorem bt_out (s : ByteArray) (i : Nat) (h : s.size ≤ i) : bt s i = 0 := by unfold bt; rw [dif_neg (by omega)]
theorem sg_le (s : ByteArray) (i : Nat) (hi : i < s.size) : i + sg s i ≤ s.size := by
  unfold sg
  by_cases h : i + 1 < s.size
  · split
    · omega
    · split
      · split <;> omega
      · split
        · split <;> omega
        · omega
  · rw [bt_out s (i + 1) (by omega)]
    split
    · omega
    · split
      · simp; omega
      · split
        · simp; omega
        · omega
def tl (s : ByteArray) (i : Nat) : Nat := if wordZ (bt s i) then wl s i else sg s i
theorem tl_le (s : ByteArray) (i : Nat) (hi : i < s.size) : i + tl s i ≤ s.size := by
  unfold tl
  split
  · have := wl_le s i; omega
  · exact sg_le s i hi
theorem sg_word (s : ByteArray) (i : Nat) (h : wordZ (bt s i) = true) : sg s i = 0 := by
  simp only [wordZ, Bool.or_eq_true, Bool.and_eq_true, decide_eq_true_eq, beq_iff_eq] at h
  unfold sg
  rw [if_neg (by simp; omega), if_neg (by simp; omega), if_neg (by simp; omega)]
theorem sg_notword (s : ByteArray) (i : Nat) (h : 0 < sg s i) : wordZ (bt s i) = false := by
  rcases hq : wordZ (bt s i) with _ | _
  · rfl
  · have := sg_word s i hq
    omega
theorem tl_sign (s : ByteArray) (i : Nat) (h : 0 < sg s i) : tl s i = sg s i := by
  unfold tl
  rw [if_neg (fun hw => by have := sg_word s i hw; omega)]
theorem tl_word (s : ByteArray) (i : Nat) (h : sg s i = 0) : tl s i = wl s i := by
  unfold tl
  split
  · rfl
  · rename_i hw
    rw [h, wl]
    simp [hw]
theorem bt_extract (s : ByteArray) (a b j : Nat) (hb : b ≤ s.size) (hj : a + j < b) : bt (s.extract a b) j = bt s (a + j) := by
  have h1 : j < (s.extract a b).size := by rw [ByteArray.size_extract]; omega
  unfold bt
  rw [dif_pos h1, dif_pos (by omega)]
  simp [ByteArray.getElem_extract]
abbrev Tok := ByteArray × Nat
def lex (s : ByteArray) (i : Nat) : List Tok × Option Nat :=
  if h : i < s.size then
    if blankZ (bt s i) then lex s (i + 1)
    else if h2 : 0 < tl s i then ((s.extract i (i + tl s i), i) :: (lex s (i + tl s i)).1, (lex s (i + tl s i)).2)
    else ([], some i)
  else ([], none)
termination_by s.size - i
theorem lex_end (s : ByteArray) (i : Nat) (h : ¬ i < s.size) : lex s i = ([], none) := by rw [lex, dif_neg h]
theorem lex_blank (s : ByteArray) (i : Nat) (h : i < s.size) (hb : blankZ (bt s i) = true) : lex s i = lex s (i + 1) := by rw [lex, dif_pos h, if_pos hb]
theorem lex_tok (s : ByteArray) (i : Nat) (h : i < s.size) (hb : blankZ (bt s i) = false) (ht : 0 < tl s i) :
    lex s i = ((s.extract i (i + tl s i), i) :: (lex s (i + tl s i)).1, (lex s (i + tl s i)).2) := by rw [lex, dif_pos h, if_neg (by simp [hb]), dif_pos ht]
theorem lex_bad (s : ByteArray) (i : Nat) (h : i < s.size) (hb : blankZ (bt s i) = false) (ht : tl s i = 0) : lex s i = ([], some i) := by
  rw [lex, dif_pos h, if_neg (by simp [hb]), dif_neg (by omega)]
def signT (t : ByteArray) : Bool := !wordZ (bt t 0)
theorem signT_at (s : ByteArray) (k n : Nat) (hn : 0 < n) (h : k + n ≤ s.size) : signT (s.extract k (k + n)) = !wordZ (bt s k) := by
  unfold signT
  rw [bt_extract s k (k + n) 0 h (by omega)]
  rfl
def colW : List ByteArray := [⟨#[]⟩, ⟨#[110, 111, 100, 101]⟩, ⟨#[98, 111, 111, 116]⟩, ⟨#[116, 105, 99, 107, 115]⟩, ⟨#[104, 97, 108, 118, 101, 115]⟩, ⟨#[112, 101, 110, 100, 105, 110, 103]⟩, ⟨#[101, 115, 116, 105, 109, 97, 116, 101]⟩, ⟨#[105, 110, 112, 117, 116]⟩, ⟨#[108, 101, 97, 115, 116]⟩, ⟨#[103, 114, 101, 97, 116, 101, 115, 116]⟩]
def cmpW : List ByteArray := [⟨#[]⟩, ⟨#[60]⟩, ⟨#[60, 61]⟩, ⟨#[61]⟩, ⟨#[33, 61]⟩, ⟨#[62, 61]⟩, ⟨#[62]⟩]
def idxFrom (l : List ByteArray) (s : ByteArray) (k : Nat) : Nat :=
  if h : k < l.length then (if l[k] = s then k else idxFrom l s (k + 1)) else 0
termination_by l.length - k
def idx (l : List ByteArray) (s : ByteArray) : Nat := idxFrom l s 1
theorem idxFrom_le (l : List ByteArray) (s : ByteArray) (k : Nat) : idxFrom l s k ≤ l.length := by
  induction h : l.length - k generalizing k with
  | zero => rw [idxFrom, dif_neg (by omega)]; omega
  | succ n ih =>
    rw [idxFrom, dif_pos (by omega)]
    split
    · omega
    · exact ih (k + 1) (by omega)
theorem idxFrom_lt (l : List ByteArray) (s : ByteArray) (k : Nat) : idxFrom l s k = 0 ∨ idxFrom l s k < l.length := by
  induction h : l.length - k generalizing k with
  | zero => rw [idxFrom, dif_neg (by omega)]; exact .inl rfl
  | succ n ih =>
    rw [idxFrom, dif_pos (by omega)]
    split
    · omega
    · exact ih (k + 1) (by omega)
def nameZ (c : Int) : Bool := (decide (97 ≤ c) && decide (c ≤ 122)) || (decide (48 ≤ c) && decide (c ≤ 57)) || (c == 95)
def namesFrom (s : ByteArray) (k : Nat) : Bool := if h : k < s.size then (if nameZ (bt s k) then namesFrom s (k + 1) else false) else true
termination_by s.size - k
def nameOk (s : ByteArray) : Bool := namesFrom s 0 && decide (1 ≤ s.size) && decide (s.size ≤ 16)
end Go.Proofs.YtkpholfdjgdjnaaGreatDoor
namespace Go.Proofs.YtkpholfdjgdjnaaGreatDoor
open Go Go.RowKit
def atOf (size : Nat) (L : List Tok) : Nat := match L with | [] => size | t :: _ => t.2
def pHas (s : ByteArray) (L : List Tok) : Bool := match L with | [] => false | t :: _ => decide (t.1 = s)
theorem pHas_yes {s : ByteArray} {L : List Tok} (h : pHas s L = true) : ∃ a L', L = (s, a) :: L' := by
  cases L with
  | nil => simp [pHas] at h
  | cons t L' =>
    simp [pHas] at h
    exact ⟨t.2, L', by rw [← h]⟩
abbrev Res (α : Type) := Except (Nat × Nat) (α × List Tok)
def sLpar : ByteArray := ⟨#[40]⟩
def sRpar : ByteArray := ⟨#[41]⟩
def sComma : ByteArray := ⟨#[44]⟩
def sAnd : ByteArray := ⟨#[97, 110, 100]⟩
def sWhere : ByteArray := ⟨#[119, 104, 101, 114, 101]⟩
def sSort : ByteArray := ⟨#[115, 111, 114, 116]⟩
def sDown : ByteArray := ⟨#[100, 111, 119, 110]⟩
def sLimit : ByteArray := ⟨#[108, 105, 109, 105, 116]⟩
def pWant (size : Nat) (s : ByteArray) (L : List Tok) : Res Unit := if pHas s L then .ok ((), L.tail) else .error (atOf size L, 61)
structure ColZ where
  op : Nat
  name : ByteArray
  deriving DecidableEq
structure CondZ where
  col : ColZ
  cmp : Nat
  num : Int
  deriving DecidableEq
structure QZ where
  cols : List ColZ
  whr : List CondZ
  srt : Int
  lim : Int
  deriving DecidableEq
def opOf (L : List Tok) : Nat := match L with | [] => 0 | t :: _ => idx colW t.1
def cmpOf (L : List Tok) : Nat := match L with | [] => 0 | t :: _ => idx cmpW t.1
def pName (size : Nat) (L : List Tok) : Res ByteArray := match L with
  | [] => .error (size, 45)
  | t :: L' => if nameOk t.1 then .ok (t.1, L') else .error (t.2, 45)
def pCol (size : Nat) (L : List Tok) : Res ColZ :=
  if opOf L = 0 then .error (atOf size L, 61)
  else if opOf L < 6 then .ok (⟨opOf L, ⟨#[]⟩⟩, L.tail)
  else match pWant size sLpar L.tail with
    | .error e => .error e
    | .ok (_, L2) => match pName size L2 with
      | .error e => .error e
      | .ok (n, L3) => match pWant size sRpar L3 with
        | .error e => .error e
        | .ok (_, L4) => .ok (⟨opOf L, n⟩, L4)
def digitsFrom (s : ByteArray) (i : Nat) (x : Int) : Option Int :=
  if h : i < s.size then (if bt s i < 48 ∨ 57 < bt s i then none else digitsFrom s (i + 1) (x * 10 + (bt s i - 48))) else some x
termination_by s.size - i
def lim63 : Int := 9223372036854775808
def capPos (x : Int) : Option Int := if x < lim63 then some x else none
def capNeg (x : Int) : Option Int := if x ≤ lim63 then some (-x) else none
def numOf (s : ByteArray) : Option Int :=
  if bt s 0 = 45 then
    (if s.size ≤ 1 ∨ 20 < s.size ∨ bt s 1 = 48 then none
     else (digitsFrom s 1 0).bind capNeg)
  else
    (if s.size = 0 ∨ 19 < s.size ∨ (bt s 0 = 48 ∧ 1 < s.size) then none
     else (digitsFrom s 0 0).bind capPos)
def pNum (size : Nat) (lo hi : Int) (L : List Tok) : Res Int := match L with
  | [] => .error (size, 31)
  | t :: L' => match numOf t.1 with
    | none => .error (t.2, 31)
    | some n => if lo ≤ n ∧ n ≤ hi then .ok (n, L') else .error (t.2, 31)
def pCond (size : Nat) (L : List Tok) : Res CondZ := match pCol size L with
  | .error e => .error e
  | .ok (c, L1) =>
    if cmpOf L1 = 0 then .error (atOf size L1, 61)
    else match pNum size (-9223372036854775808) 9223372036854775807 L1.tail with
      | .error e => .error e
      | .ok (n, L2) => .ok (⟨c, cmpOf L1, n⟩, L2)
def pMore {α : Type} (size : Nat) (one : List Tok → Res α) (s : ByteArray) : Nat → List α → List Tok → Res (List α)
  | 0, acc, L => if pHas s L then .error (atOf size L.tail, 30) else .ok (acc, L)
  | n + 1, acc, L => if pHas s L then (match one L.tail with
      | .error e => .error e
      | .ok (a, L') => pMore size one s n (acc ++ [a]) L') else .ok (acc, L)
def pRow {α : Type} (size : Nat) (one : List Tok → Res α) (s : ByteArray) (L : List Tok) : Res (List α) := match one L with
  | .error e => .error e
  | .ok (a, L') => pMore size one s 15 [a] L'
def pWhere (size : Nat) (L : List Tok) : Res (List CondZ) := if pHas sWhere L then pRow size (pCond size) sAnd L.tail else .ok ([], L)
def pSort (size : Nat) (n : Nat) (L : List Tok) : Res Int :=
  if pHas sSort L then (match pNum size 1 n L.tail with
    | .error e => .error e
    | .ok (k, L1) => if pHas sDown L1 then .ok (-k, L1.tail) else .ok (k, L1)) else .ok (0, L)
def pLimit (size : Nat) (L : List Tok) : Res Int := if pHas sLimit L then pNum size 1 1000 L.tail else .ok (0, L)
def pEnd (size : Nat) (L : List Tok) : Res Unit := match L with | [] => .ok ((), []) | t :: _ => .error (t.2, 61)
def pQuery (size : Nat) (L : List Tok) : Except (Nat × Nat) QZ := match pRow size (pCol size) sComma L with
  | .error e => .error e
  | .ok (cols, L1) => match pWhere size L1 with
    | .error e => .error e
    | .ok (whr, L2) => match pSort size cols.length L2 with
      | .error e => .error e
      | .ok (srt, L3) => match pLimit size L3 with
        | .error e => .error e
        | .ok (lim, L4) => match pEnd size L4 with
          | .error e => .error e
          | .ok _ => .ok ⟨cols, whr, srt, lim⟩
def parseZ (s : ByteArray) : Except (Nat × Nat) QZ :=
  if 4096 < s.size then .error (0, 60)
  else match (lex s 0).2 with
    | some i => .error (i, 20)
    | none => pQuery s.size (lex s 0).1
theorem pHas_cons {s : ByteArray} {L : List Tok} (h : pHas s L = true) : L.tail.length + 1 = L.length := by
  obtain ⟨a, L', rfl⟩ := pHas_yes h
  rfl
theorem pWant_shorter {size : Nat} {s : ByteArray} {L L' : List Tok} {u : Unit} (h : pWant size s L = .ok (u, L')) : L'.length + 1 = L.length := by
  unfold pWant at h
  split at h
  · rename_i hp
    cases h
    exact pHas_cons hp
  · cases h
theorem pName_shorter {size : Nat} {L L' : List Tok} {n : ByteArray} (h : pName size L = .ok (n, L')) : L'.length + 1 = L.length := by
  unfold pName at h
  split at h
  · cases h
  · split at h
    · cases h; rfl
    · cases h
theorem pNum_shorter {size : Nat} {lo hi : Int} {L L' : List Tok} {n : Int} (h : pNum size lo hi L = .ok (n, L')) : L'.length + 1 = L.length := by
  unfold pNum at h
  split at h
  · cases h
  · split at h
    · cases h
    · split at h
      · cases h; rfl
      · cases h
theorem opOf_cons {L : List Tok} (h : opOf L ≠ 0) : L.tail.length + 1 = L.length := by
  cases L with
  | nil => exact absurd rfl h
  | cons t L => rfl
theorem cmpOf_cons {L : List Tok} (h : cmpOf L ≠ 0) : L.tail.length + 1 = L.length := by
  cases L with
  | nil => exact absurd rfl h
  | cons t L => rfl
theorem pCol_shorter {size : Nat} {L L' : List Tok} {c : ColZ} (h : pCol size L = .ok (c, L')) : L'.length < L.length := by
  unfold pCol at h
  split at h
  · cases h
  · rename_i h0
    have h1 := opOf_cons h0
    split at h
    · cases h; omega
    · split at h
      · cases h
      · rename_i h2
        have h3 := pWant_shorter h2
        split at h
        · cases h
        · rename_i h4
          have h5 := pName_shorter h4
          split at h
          · cases h
          · rename_i h6
            have h7 := pWant_shorter h6
            cases h
            omega
theorem pCond_shorter {size : Nat} {L L' : List Tok} {c : CondZ} (h : pCond size L = .ok (c, L')) : L'.length < L.length := by
  unfold pCond at h
  split at h
  · cases h
  · rename_i h0
    have h1 := pCol_shorter h0
    split at h
    · cases h
    · rename_i h2
      have h3 := cmpOf_cons h2
      split at h
      · cases h
      · rename_i h4
        have h5 := pNum_shorter h4
        cases h
        omega
theorem nameOk_word {s : ByteArray} (h : nameOk s = true) : signT s = false := by
  unfold nameOk at h
  simp only [Bool.and_eq_true, decide_eq_true_eq] at h
  obtain ⟨⟨h1, h2⟩, h3⟩ := h
  rw [namesFrom, dif_pos (by omega)] at h1
  split at h1
  · rename_i hn
    unfold signT
    rw [Bool.not_eq_false']
    simp only [nameZ, wordZ, Bool.or_eq_true, Bool.and_eq_true, decide_eq_true_eq, beq_iff_eq] at *
    omega
  · cases h1
theorem idxFrom_mem (l : List ByteArray) (s : ByteArray) (k : Nat) (h : idxFrom l s k ≠ 0) : s ∈ l.drop k := by
  induction hn : l.length - k generalizing k with
  | zero => rw [idxFrom, dif_neg (by omega)] at h; exact absurd rfl h
  | succ n ih =>
    rw [idxFrom, dif_pos (by omega)] at h
    rw [List.drop_eq_getElem_cons (by omega)]
    split at h
    · rename_i he
      rw [he]
      simp
    · exact List.mem_cons_of_mem _ (ih (k + 1) h (by omega))
theorem col_word {s : ByteArray} (h : idx colW s ≠ 0) : signT s = false := by
  have hm := idxFrom_mem colW s 1 h
  simp only [colW, List.drop_succ_cons, List.drop_zero, List.mem_cons, List.not_mem_nil, or_false] at hm
  rcases hm with rfl | rfl | rfl | rfl | rfl | rfl | rfl | rfl | rfl <;> decide
theorem cmp_sign {s : ByteArray} (h : idx cmpW s ≠ 0) : signT s = true := by
  have hm := idxFrom_mem cmpW s 1 h
  simp only [cmpW, List.drop_succ_cons, List.drop_zero, List.mem_cons, List.not_mem_nil, or_false] at hm
  rcases hm with rfl | rfl | rfl | rfl | rfl | rfl <;> decide
theorem num_word {s : ByteArray} (h : numOf s ≠ none) : signT s = false := by
  unfold signT
  rw [Bool.not_eq_false']
  unfold numOf at h
  split at h
  · rename_i h0
    rw [h0]
    decide
  · split at h
    · exact absurd rfl h
    · rename_i h1 h2
      rw [digitsFrom, dif_pos (by omega)] at h
      split at h
      · exact absurd rfl h
      · simp only [wordZ, Bool.or_eq_true, Bool.and_eq_true, decide_eq_true_eq, beq_iff_eq]
        omega
end Go.Proofs.YtkpholfdjgdjnaaGreatDoor
namespace Go.Proofs.YtkpholfdjgdjnaaGreatDoor
open Go Go.RowKit
def TokOk (s : ByteArray) : Prop := 0 < s.size ∧ s.size ≤ 4096 ∧ (wordZ (bt s 0) = true → ∀ i, i < s.size → wordZ (bt s i) = true)
def lexP (s : ByteArray) (i : Nat) : List Tok := (lex s i).1 ++ (match (lex s i).2 with | none => [] | some k => [(⟨#[]⟩, k)])
theorem lexP_end (s : ByteArray) (i : Nat) (h : ¬ i < s.size) : lexP s i = [] := by
  unfold lexP
  rw [lex_end s i h]
  rfl
theorem lexP_blank (s : ByteArray) (i : Nat) (h : i < s.size) (hb : blankZ (bt s i) = true) : lexP s i = lexP s (i + 1) := by
  unfold lexP
  rw [lex_blank s i h hb]
theorem lexP_tok (s : ByteArray) (i : Nat) (h : i < s.size) (hb : blankZ (bt s i) = false) (ht : 0 < tl s i) :
    lexP s i = (s.extract i (i + tl s i), i) :: lexP s (i + tl s i) := by
  unfold lexP
  rw [lex_tok s i h hb ht]
  rfl
theorem lexP_bad (s : ByteArray) (i : Nat) (h : i < s.size) (hb : blankZ (bt s i) = false) (ht : tl s i = 0) : lexP s i = [(⟨#[]⟩, i)] := by
  unfold lexP
  rw [lex_bad s i h hb ht]
  rfl
theorem wl_all (s : ByteArray) (i : Nat) : ∀ j, j < wl s i → wordZ (bt s (i + j)) = true := by
  induction h : s.size - i generalizing i with
  | zero =>
    intro j hj
    rw [wl, dif_neg (by omega)] at hj
    omega
  | succ n ih =>
    intro j hj
    rw [wl, dif_pos (by omega)] at hj
    split at hj
    · rename_i hw
      cases j with
      | zero => exact hw
      | succ j =>
        have := ih (i + 1) (by omega) j (by omega)
        rw [show i + (j + 1) = i + 1 + j by omega]
        exact this
    · omega
theorem tok_ok (s : ByteArray) (i : Nat) (hi : i < s.size) (hs : s.size ≤ 4096) (ht : 0 < tl s i) : TokOk (s.extract i (i + tl s i)) := by
  have hle := tl_le s i hi
  have hsz : (s.extract i (i + tl s i)).size = tl s i := by simp [ByteArray.size_extract]; omega
  refine ⟨by omega, by omega, ?_⟩
  intro hw j hj
  rw [hsz] at hj
  rw [bt_extract s i (i + tl s i) 0 hle (by omega)] at hw
  rw [bt_extract s i (i + tl s i) j hle (by omega)]
  have : tl s i = wl s i := by unfold tl; rw [if_pos (by simpa using hw)]
  rw [this] at hj
  exact wl_all s i j hj
theorem lex_ok (s : ByteArray) (hs : s.size ≤ 4096) (i : Nat) : ∀ t ∈ (lex s i).1, TokOk t.1 := by
  induction h : s.size - i using Nat.strongRecOn generalizing i with
  | _ n ih =>
    by_cases hi : i < s.size
    · by_cases hb : blankZ (bt s i) = true
      · rw [lex_blank s i hi hb]
        exact ih (s.size - (i + 1)) (by omega) (i + 1) rfl
      · have hb' : blankZ (bt s i) = false := by simpa using hb
        by_cases ht : 0 < tl s i
        · rw [lex_tok s i hi hb' ht]
          have hle := tl_le s i hi
          intro t hm
          rcases List.mem_cons.1 hm with rfl | hm
          · exact tok_ok s i hi hs ht
          · exact ih (s.size - (i + tl s i)) (by omega) (i + tl s i) rfl t hm
        · rw [lex_bad s i hi hb' (by omega)]
          simp
    · rw [lex_end s i hi]
      simp
theorem lexP_good {s : ByteArray} (h : ∀ t ∈ lexP s 0, t.1 ≠ ⟨#[]⟩) : (lex s 0).2 = none ∧ lexP s 0 = (lex s 0).1 := by
  unfold lexP at *
  rcases hb : (lex s 0).2 with _ | i
  · simp
  · rw [hb] at h
    exact absurd rfl (h (⟨#[]⟩, i) (by simp))
theorem lexP_stop {s : ByteArray} (hs : s.size ≤ 4096) {t : Tok} (hm : t ∈ lexP s 0) (ht : t.1 = ⟨#[]⟩) : (lex s 0).2 = some t.2 := by
  unfold lexP at hm
  rcases List.mem_append.1 hm with hm | hm
  · have := (lex_ok s hs 0 t hm).1
    rw [ht] at this
    exact absurd this (by decide)
  · rcases hb : (lex s 0).2 with _ | i
    · rw [hb] at hm
      simp at hm
    · rw [hb] at hm
      simp at hm
      rw [hm]
def wlF (s : ByteArray) : Nat → Nat → Nat
  | 0, _ => 0
  | n + 1, i => if i < s.size then (if wordZ (bt s i) then wlF s n (i + 1) + 1 else 0) else 0
theorem wlF_eq (s : ByteArray) : ∀ n i, s.size - i < n → wlF s n i = wl s i := by
  intro n
  induction n with
  | zero => intro i h; omega
  | succ n ih =>
    intro i h
    rw [wl, wlF]
    by_cases hi : i < s.size
    · rw [dif_pos hi, if_pos hi, ih (i + 1) (by omega)]
    · rw [dif_neg hi, if_neg hi]
def tlF (s : ByteArray) (i : Nat) : Nat := if wordZ (bt s i) then wlF s (s.size + 1) i else sg s i
theorem tlF_eq (s : ByteArray) (i : Nat) : tlF s i = tl s i := by
  unfold tlF tl
  rw [wlF_eq s _ i (by omega)]
def lexF (s : ByteArray) : Nat → Nat → List Tok × Option Nat
  | 0, _ => ([], none)
  | n + 1, i => if i < s.size then
      (if blankZ (bt s i) then lexF s n (i + 1)
       else if 0 < tlF s i then ((s.extract i (i + tlF s i), i) :: (lexF s n (i + tlF s i)).1, (lexF s n (i + tlF s i)).2)
       else ([], some i))
    else ([], none)
theorem lexF_eq (s : ByteArray) : ∀ n i, s.size - i < n → lexF s n i = lex s i := by
  intro n
  induction n with
  | zero => intro i h; omega
  | succ n ih =>
    intro i h
    rw [lex, lexF, tlF_eq]
    by_cases hi : i < s.size
    · rw [dif_pos hi, if_pos hi, ih (i + 1) (by omega)]
      split
      · rfl
      · by_cases ht : 0 < tl s i
        · rw [if_pos ht, dif_pos ht, ih (i + tl s i) (by omega)]
        · rw [if_neg ht, dif_neg ht]
    · rw [dif_neg hi, if_neg hi]
def idxF (l : List ByteArray) (s : ByteArray) : Nat → Nat → Nat
  | 0, _ => 0
  | n + 1, k => if h : k < l.length then (if l[k] = s then k else idxF l s n (k + 1)) else 0
theorem idxF_eq (l : List ByteArray) (s : ByteArray) : ∀ n k, l.length - k < n → idxF l s n k = idxFrom l s k := by
  intro n
  induction n with
  | zero => intro i h; omega
  | succ n ih =>
    intro k h
    rw [idxFrom, idxF]
    by_cases hk : k < l.length
    · rw [dif_pos hk, dif_pos hk, ih (k + 1) (by omega)]
    · rw [dif_neg hk, dif_neg hk]
def nameF (s : ByteArray) : Nat → Nat → Bool
  | 0, _ => true
  | n + 1, k => if k < s.size then (if nameZ (bt s k) then nameF s n (k + 1) else false) else true
theorem nameF_eq (s : ByteArray) : ∀ n k, s.size - k < n → nameF s n k = namesFrom s k := by
  intro n
  induction n with
  | zero => intro i h; omega
  | succ n ih =>
    intro k h
    rw [namesFrom, nameF]
    by_cases hk : k < s.size
    · rw [dif_pos hk, if_pos hk, ih (k + 1) (by omega)]
    · rw [dif_neg hk, if_neg hk]
def digF (s : ByteArray) : Nat → Nat → Int → Option Int
  | 0, _, x => some x
  | n + 1, i, x => if i < s.size then (if bt s i < 48 ∨ 57 < bt s i then none else digF s n (i + 1) (x * 10 + (bt s i - 48))) else some x
theorem digF_eq (s : ByteArray) : ∀ n i x, s.size - i < n → digF s n i x = digitsFrom s i x := by
  intro n
  induction n with
  | zero => intro i x h; omega
  | succ n ih =>
    intro i x h
    rw [digitsFrom, digF]
    by_cases hi : i < s.size
    · rw [dif_pos hi, if_pos hi, ih (i + 1) _ (by omega)]
    · rw [dif_neg hi, if_neg hi]
end Go.Proofs.YtkpholfdjgdjnaaGreatDoor
namespace Go.Proofs.YtkpholfdjgdjnaaGreatDoor
open Go Go.RowKit Go.Proofs
theorem wordByte_calls (c : Int) (w : World) (h0 : 0 ≤ c) (h1 : c ≤ 255) :
    Calls Tryz.prog 68 #[.int .u8 c] w fun e w' => e = .returned (.bool (wordZ c)) ∧ w = w' := by
  go_enter Tryz.func68, Tryz.ntmps68
  go_wp2
  all_goals
    go_ret
    exact ⟨ret_bool (by first | rfl | (rw [Bool.eq_iff_iff]; simp only [wordZ, Bool.or_eq_true, Bool.and_eq_true, decide_eq_true_eq, beq_iff_eq, eq_self, true_iff, iff_true]; omega)), rfl⟩
theorem ofWord_calls (c : Int) (w : World) (h0 : 0 ≤ c) (h1 : c ≤ 255) :
    Calls Tryz.prog 79 #[.int .u8 c] w fun e w' => e = .returned (.bool (wordZ c)) ∧ w = w' := by
  go_enter Tryz.func79, Tryz.ntmps79
  go_wp2
  all_goals
    go_ret
    exact ⟨ret_bool (by first | rfl | (rw [Bool.eq_iff_iff]; simp only [wordZ, Bool.or_eq_true, Bool.and_eq_true, decide_eq_true_eq, beq_iff_eq, eq_self, true_iff, iff_true]; omega)), rfl⟩
theorem blank_calls (c : Int) (w : World) (h0 : 0 ≤ c) (h1 : c ≤ 255) :
    Calls Tryz.prog 77 #[.int .u8 c] w fun e w' => e = .returned (.bool (blankZ c)) ∧ w = w' := by
  go_enter Tryz.func77, Tryz.ntmps77
  go_wp2
  all_goals
    go_ret
    exact ⟨ret_bool (by unfold blankZ; simp [*]), rfl⟩
theorem sign_calls (s : ByteArray) (i : Nat) (w : World) (hi : i < s.size) (hs : s.size ≤ 4096) :
    Calls Tryz.prog 78 #[.string s, .int .i64 i] w fun e w' => e = .returned (.int .i64 (sg s i)) ∧ w = w' := by
  have hb := bt_at s i
  have hb1 := bt_at s (i+1)
  have hr := bt_range s i
  have hr1 := bt_range s (i+1)
  by_cases h2 : i + 1 < s.size
  · go_enter Tryz.func78, Tryz.ntmps78
    go_wp2
    all_goals
      go_ret
      exact ⟨ret_int (by unfold sg; simp [*]), rfl⟩
  · have h3 := bt_out s (i + 1) (by omega)
    have H3 := Lib.hid h3
    clear h3 hb1
    go_enter Tryz.func78, Tryz.ntmps78
    go_wp2
    all_goals
      go_ret
      exact ⟨ret_int (by unfold sg; rw [H3.out]; simp [*]), rfl⟩
def tabV (l : List ByteArray) : Array Value := (l.map Value.string).toArray
theorem tabV_get (l : List ByteArray) (k : Nat) (h : k < l.length) : (tabV l)[k]? = some (.string (l[k]?.getD ByteArray.empty)) := by
  unfold tabV
  simp [h]
theorem columns_calls (w : World) :
    Calls Tryz.prog 88 #[] w fun e w' => e = .returned (.slice (some ⟨w.heap.size, 0, none⟩) 10 10) ∧ w.alloc (.cells (tabV colW) 9) = w' := by
  go_enter Tryz.func88, Tryz.ntmps88
  go_wp2
  go_ret
  exact ⟨rfl, rfl⟩
theorem colWords_calls (w : World) :
    Calls Tryz.prog 91 #[] w fun e w' => e = .returned (.slice (some ⟨w.heap.size, 0, none⟩) 10 10) ∧ w.alloc (.cells (tabV colW) 9) = w' := by
  go_enter Tryz.func91, Tryz.ntmps91
  go_wp2
  go_ret
  exact ⟨rfl, rfl⟩
theorem compares_calls (w : World) :
    Calls Tryz.prog 41 #[] w fun e w' => e = .returned (.slice (some ⟨w.heap.size, 0, none⟩) 7 7) ∧ w.alloc (.cells (tabV cmpW) 9) = w' := by
  go_enter Tryz.func41, Tryz.ntmps41
  go_wp2
  go_ret
  exact ⟨rfl, rfl⟩
theorem cmpWords_calls (w : World) :
    Calls Tryz.prog 45 #[] w fun e w' => e = .returned (.slice (some ⟨w.heap.size, 0, none⟩) 7 7) ∧ w.alloc (.cells (tabV cmpW) 9) = w' := by
  go_enter Tryz.func45, Tryz.ntmps45
  go_wp2
  go_ret
  exact ⟨rfl, rfl⟩
theorem index_calls (b : Nat) (l : List ByteArray) (s : ByteArray) (w : World) (n : Nat) (hn : n = l.length) (hb : n ≤ 100) (h1 : 1 ≤ n)
  (hc : ∀ k, k < n → w.cell? ⟨b, k, none⟩ = some (.string (l[k]?.getD ByteArray.empty))) :
    Calls Tryz.prog 127 #[.slice (some ⟨b, 0, none⟩) n n, .string s] w fun e w' => e = .returned (.int .i64 (idx l s)) ∧ w = w' := by
  have Hn := Lib.hid hn
  clear hn
  go_enter Tryz.func127, Tryz.ntmps127
  go_wp2
  go_loop [5] (fun i => ∃ k : Nat, 1 ≤ k ∧ k ≤ n ∧ i = .int .i64 k ∧ Hid (idx l s = idxFrom l s k)) (fun i => n - (intOf i).toNat)
  case atStart => exact ⟨1, by omega, by omega, rfl, rfl⟩
  case round =>
    obtain ⟨k, hk1, hk, rfl, hx⟩ := hrel
    have hcell : k < n → w.cell? ⟨b, k, none⟩ = some (.string (l[k]?.getD ByteArray.empty)) := fun h => hc k h
    clear hc
    by_cases hlt : k < n
    · have hce := hcell hlt
      clear hcell
      have hst : idxFrom l s k = if (l[k]?.getD ByteArray.empty) = s then k else idxFrom l s (k + 1) := by
        rw [idxFrom, dif_pos (by rw [← Hn.out]; exact hlt)]
        have hl : k < l.length := by rw [← Hn.out]; exact hlt
        simp [List.getElem?_eq_getElem hl]
      have Hst := Lib.hid hst
      clear hst
      go_wp2
      · have hq : ((l[k]?.getD ByteArray.empty).toList == s.toList) = true := by assumption
        go_ret
        exact ⟨ret_int (by rw [hx.out, Hst.out, if_pos (str_yes hq)]), rfl⟩
      · have hq : ((l[k]?.getD ByteArray.empty).toList == s.toList) = false := by assumption
        go_round
        case rel => exact ⟨k + 1, by omega, by omega, by go_num, by unfold Hid; rw [hx.out, Hst.out, if_neg (str_no hq)]⟩
        case measure => simp [intOf]; omega
    · clear hcell
      go_wp2
      go_ret
      exact ⟨ret_int (by rw [hx.out, idxFrom, dif_neg (by rw [← Hn.out]; exact hlt)]; rfl), rfl⟩
theorem place_calls (b : Nat) (l : List ByteArray) (s : ByteArray) (w : World) (n : Nat) (hn : n = l.length) (hb : n ≤ 100) (h1 : 1 ≤ n)
  (hc : ∀ k, k < n → w.cell? ⟨b, k, none⟩ = some (.string (l[k]?.getD ByteArray.empty))) :
    Calls Tryz.prog 131 #[.slice (some ⟨b, 0, none⟩) n n, .string s] w fun e w' => e = .returned (.int .i64 (idx l s)) ∧ w = w' := by
  have Hn := Lib.hid hn
  clear hn
  go_enter Tryz.func131, Tryz.ntmps131
  go_wp2
  go_loop [5] (fun i => ∃ k : Nat, 1 ≤ k ∧ k ≤ n ∧ i = .int .i64 k ∧ Hid (idx l s = idxFrom l s k)) (fun i => n - (intOf i).toNat)
  case atStart => exact ⟨1, by omega, by omega, rfl, rfl⟩
  case round =>
    obtain ⟨k, hk1, hk, rfl, hx⟩ := hrel
    have hcell : k < n → w.cell? ⟨b, k, none⟩ = some (.string (l[k]?.getD ByteArray.empty)) := fun h => hc k h
    clear hc
    by_cases hlt : k < n
    · have hce := hcell hlt
      clear hcell
      have hst : idxFrom l s k = if (l[k]?.getD ByteArray.empty) = s then k else idxFrom l s (k + 1) := by
        rw [idxFrom, dif_pos (by rw [← Hn.out]; exact hlt)]
        have hl : k < l.length := by rw [← Hn.out]; exact hlt
        simp [List.getElem?_eq_getElem hl]
      have Hst := Lib.hid hst
      clear hst
      go_wp2
      · have hq : ((l[k]?.getD ByteArray.empty).toList == s.toList) = true := by assumption
        go_ret
        exact ⟨ret_int (by rw [hx.out, Hst.out, if_pos (str_yes hq)]), rfl⟩
      · have hq : ((l[k]?.getD ByteArray.empty).toList == s.toList) = false := by assumption
        go_round
        case rel => exact ⟨k + 1, by omega, by omega, by go_num, by unfold Hid; rw [hx.out, Hst.out, if_neg (str_no hq)]⟩
        case measure => simp [intOf]; omega
    · clear hcell
      go_wp2
      go_ret
      exact ⟨ret_int (by rw [hx.out, idxFrom, dif_neg (by rw [← Hn.out]; exact hlt)]; rfl), rfl⟩
theorem rname_calls (s : ByteArray) (w : World) (hs : s.size ≤ 9223372036854775807) :
    Calls Tryz.prog 87 #[.string s] w fun e w' => e = .returned (.bool (nameOk s)) ∧ w = w' := by
  go_enter Tryz.func87, Tryz.ntmps87
  go_wp2
  go_loop [3] (fun i => ∃ k : Nat, k ≤ s.size ∧ i = .int .i64 k ∧ Hid (namesFrom s 0 = namesFrom s k)) (fun i => s.size - (intOf i).toNat)
  case atStart => exact ⟨0, by omega, rfl, rfl⟩
  case round =>
    obtain ⟨k, hk, rfl, hx⟩ := hrel
    by_cases hlt : k < s.size
    · have hb := bt_at s k
      have hr := bt_range s k
      have Hst := Lib.hid (show namesFrom s k = if nameZ (bt s k) then namesFrom s (k + 1) else false by rw [namesFrom, dif_pos hlt])
      go_wp2
      all_goals first
        | (have hz : nameZ (bt s k) = false := by
             rw [Bool.eq_false_iff]; simp only [nameZ, ne_eq, Bool.or_eq_true, Bool.and_eq_true, decide_eq_true_eq, beq_iff_eq]; simp only [bne_iff_ne, ne_eq] at *; omega
           go_ret
           exact ⟨ret_bool (by unfold nameOk; rw [hx.out, Hst.out, hz]; rfl), rfl⟩)
        | (have hz : nameZ (bt s k) = true := by
             simp only [nameZ, Bool.or_eq_true, Bool.and_eq_true, decide_eq_true_eq, beq_iff_eq]; simp only [bne_eq_false_iff_eq] at *; omega
           go_round
           case rel => exact ⟨k + 1, by omega, by go_num, by unfold Hid; rw [hx.out, Hst.out, hz]; rfl⟩
           case measure => simp [intOf]; omega)
    · have hy : namesFrom s k = true := by rw [namesFrom, dif_neg hlt]
      have Hy := Lib.hid hy
      clear hy
      go_wp2
      all_goals
        go_ret
        exact ⟨ret_bool (by unfold nameOk; rw [hx.out, Hy.out, Bool.eq_iff_iff]; simp; omega), rfl⟩
end Go.Proofs.YtkpholfdjgdjnaaGreatDoor
namespace Go.Proofs.YtkpholfdjgdjnaaGreatDoor
open Go Go.RowKit Go.Proofs
theorem Tryz.info149 : (Tryz.prog.info? 149).map (fun i => (i.zero, i.size, i.bytes)) = some (some (.agg #[.string ⟨#[]⟩, .int .i64 0, .bool false]), 3, 32) := by kernel_rfl
def wordV (t : Tok) : List Value := [.string t.1, .int .i64 t.2, .bool (signT t.1)]
def wordsV (T : List Tok) : List Value := T.flatMap wordV
theorem wordsV_snoc (T : List Tok) (t : Tok) : wordsV (T ++ [t]) = wordsV T ++ wordV t := by simp [wordsV]
theorem wordsV_length (T : List Tok) : (wordsV T).length = T.length * 3 := by
  induction T with
  | nil => rfl
  | cons t T ih => simp only [wordsV, List.flatMap_cons, List.length_append, List.length_cons] at *; simp [wordV, ih]; omega
theorem wl_step (s : ByteArray) (i : Nat) (h : i < s.size) (hw : wordZ (bt s i) = true) : wl s i = wl s (i + 1) + 1 := by rw [wl, dif_pos h, if_pos hw]
theorem wl_stop (s : ByteArray) (i : Nat) (h : ¬ (i < s.size ∧ wordZ (bt s i) = true)) : wl s i = 0 := by
  rw [wl]
  split
  · rename_i h1
    rw [if_neg (fun h2 => h ⟨h1, h2⟩)]
  · rfl
structure WordsRel (s : ByteArray) (w : World) (v : Value) (k : Nat) (wr : World) : Prop where
  le : k ≤ s.size
  row : ∃ T : List Tok, wr.ownsRow w.heap.size 149 3 v T.length (wordsV T) ∧ lex s 0 = (T ++ (lex s k).1, (lex s k).2) ∧ T.length ≤ k
  ext : Ext [] w wr
def WordsPost (s : ByteArray) (w : World) (e : Ending) (w' : World) : Prop :=
  Ext [] w w' ∧ ∃ v, ((lex s 0).2 = none ∧ e = .returned (.tuple #[v, .int .i64 (-1)]) ∧ w'.ownsRow w.heap.size 149 3 v (lex s 0).1.length (wordsV (lex s 0).1)) ∨
    (∃ i, (lex s 0).2 = some i ∧ e = .returned (.tuple #[.slice none 0 0, .int .i64 i]))
theorem WordsRel.blank {s : ByteArray} {w wr : World} {v : Value} {k : Nat} (h : WordsRel s w v k wr) (hlt : k < s.size) (hb : blankZ (bt s k) = true) : WordsRel s w v (k + 1) wr := by
  obtain ⟨T, h1, h2, h3⟩ := h.row
  exact ⟨by omega, ⟨T, h1, by rw [h2, lex_blank s k hlt hb], by omega⟩, h.ext⟩
theorem WordsRel.word {s : ByteArray} {w w1 : World} {v1 : Value} {k : Nat} {T : List Tok} (hlt : k < s.size) (hb : blankZ (bt s k) = false) (ht : 0 < tl s k)
    (h2 : lex s 0 = (T ++ (lex s k).1, (lex s k).2)) (h3 : T.length ≤ k) (he : Ext [] w w1)
    (hr : w1.ownsRow w.heap.size 149 3 v1 (T.length + 1) (wordsV T ++ [.string (s.extract k (k + tl s k)), .int .i64 k, .bool (!wordZ (bt s k))])) : WordsRel s w v1 (k + tl s k) w1 := by
  have hl := tl_le s k hlt
  refine ⟨hl, ⟨T ++ [(s.extract k (k + tl s k), k)], ?_, ?_, by simp; omega⟩, he⟩
  · rw [wordsV_snoc]
    simp only [List.length_append, List.length_cons, List.length_nil]
    unfold wordV
    simp only
    rw [signT_at s k _ ht hl]
    exact hr
  · rw [h2, lex_tok s k hlt hb ht]
    simp
theorem WordsRel.done {s : ByteArray} {w wr : World} {v : Value} {k : Nat} (h : WordsRel s w v k wr) (hlt : ¬ k < s.size) : WordsPost s w (.returned (.tuple #[v, .int .i64 (-1)])) wr := by
  obtain ⟨T, h1, h2, h3⟩ := h.row
  rw [lex_end s k hlt] at h2
  refine ⟨h.ext, v, .inl ⟨by rw [h2], rfl, ?_⟩⟩
  rw [h2]
  simpa using h1
theorem WordsRel.bad {s : ByteArray} {w wr : World} {v : Value} {k : Nat} (h : WordsRel s w v k wr) (hlt : k < s.size) (hb : blankZ (bt s k) = false) (ht : tl s k = 0) : WordsPost s w (.returned (.tuple #[.slice none 0 0, .int .i64 k])) wr := by
  obtain ⟨T, h1, h2, h3⟩ := h.row
  rw [lex_bad s k hlt hb ht] at h2
  exact ⟨h.ext, v, .inr ⟨k, by rw [h2], rfl⟩⟩
set_option maxRecDepth 100000 in
set_option maxHeartbeats 1000000 in
theorem words_calls (s : ByteArray) (w : World) (hs : s.size ≤ 4096) :
    Calls Tryz.prog 30 #[.string s] w (WordsPost s w) := by
  obtain ⟨i0, hi, hz0, hz1, hz2⟩ := info_parts Tryz.info149
  go_enter Tryz.func30, Tryz.ntmps30
  go_wp2
  go_loopw [4, 5] (fun v i wr => ∃ k : Nat, i = .int .i64 k ∧ WordsRel s w v k wr) (fun _ i _ => s.size - (intOf i).toNat)
  case atStart => exact ⟨0, rfl, by omega, ⟨[], World.ownsRow_nil _ _ _ _, by simp, by simp⟩, Ext.refl _ _⟩
  case round =>
    obtain ⟨k, rfl, hrel⟩ := hrel
    by_cases hlt : k < s.size
    · have hb := bt_at s k
      have hr := bt_range s k
      by_cases hbl : blankZ (bt s k) = true
      · go_wp2_with (go_at_call 77; refine (blank_calls _ _ (by omega) (by omega)).mono ?_; rintro e w' ⟨rfl, rfl⟩)
        go_roundw
        case rel => exact ⟨k + 1, by go_num, hrel.blank hlt hbl⟩
        case measure => simp [intOf]; omega
      · have hbf : blankZ (bt s k) = false := by simpa using hbl
        clear hbl
        by_cases hsg : 0 < sg s k
        · have hsl := sg_le s k hlt
          have Htl := Lib.hid (tl_sign s k hsg)
          obtain ⟨T, hrow, h2, h3⟩ := hrel.row
          have HL := Lib.hid (wordsV_length T)
          have H2 := Lib.hid h2
          have Hext := Lib.hid hrel.ext
          have hsz := hrel.ext.size
          clear h2 hrel
          go_wp2_with (first
            | (go_at_call 77; refine (blank_calls _ _ (by omega) (by omega)).mono ?_; rintro e w' ⟨rfl, rfl⟩)
            | (go_at_call 78; refine (sign_calls _ _ _ hlt hs).mono ?_; rintro e w' ⟨rfl, rfl⟩)
            | (at_builtin; refine wpList_append_own _ rfl _ _ 76 rfl w.heap.size 149 i0 _ 3 32 Tryz.underlying76 hi hz0 hz1 hz2 rfl (by decide) _ _ _ rfl (hrow.alloc _) ⟨wr.heap.size, 0, none⟩ 1 1 [.string (s.extract k (k + sg s k)), .int .i64 k, .bool true] rfl rfl ?c1 ?c2 ?c3 ?c4 ?c5 ?_; (case c1 => exact cells_new _ _ _); (case c2 => simp [Value.oneCell']); (case c3 => unfold maxLen; omega); (case c4 => omega); (case c5 => simp; omega); intro v' w1 hown' hgrow _))
          go_roundw
          case rel => exact ⟨k + sg s k, by go_num, by rw [← Htl.out]; exact WordsRel.word hlt hbf (by rw [Htl.out]; exact hsg) H2.out h3 ((Hext.out.alloc _).grown hgrow (by intro b hb; exact .inr ((hrow.lt b hb).1))) (by rw [Htl.out, sg_notword s k hsg]; exact hown')⟩
          case measure => simp [intOf]; omega
        · have hsg0 : sg s k = 0 := by omega
          have Htl := Lib.hid (tl_word s k hsg0)
          have Hsg := Lib.hid hsg0
          have hwl := wl_le s k
          clear hsg hsg0
          obtain ⟨T, hrow, h2, h3⟩ := hrel.row
          have HL := Lib.hid (wordsV_length T)
          have H2 := Lib.hid h2
          have Hext := Lib.hid hrel.ext
          have hsz := hrel.ext.size
          have Hrel := Lib.hid hrel
          clear h2 hrel
          go_wp2_with (first
            | (go_at_call 77; refine (blank_calls _ _ (by omega) (by omega)).mono ?_; rintro e w' ⟨rfl, rfl⟩)
            | (go_at_call 78; refine (sign_calls _ _ _ hlt hs).mono ?_; rw [Hsg.out]; rintro e w' ⟨rfl, rfl⟩))
          go_loop [7] (fun e => ∃ j : Nat, e = .int .i64 j ∧ k ≤ j ∧ j ≤ s.size ∧ Hid (k + wl s k = j + wl s j)) (fun e => s.size - (intOf e).toNat)
          case atStart => exact ⟨k, rfl, by omega, by omega, rfl⟩
          case round =>
            obtain ⟨j, rfl, hkj, hj, hw⟩ := hrel
            have hbj := bt_at s j
            have hrj := bt_range s j
            by_cases hjw : j < s.size ∧ wordZ (bt s j) = true
            · obtain ⟨hjl, hwd⟩ := hjw
              have Hws := Lib.hid (wl_step s j hjl hwd)
              have Hwd := Lib.hid hwd
              clear hwd
              go_wp2_with (go_at_call 79; refine (ofWord_calls _ _ (by omega) (by omega)).mono ?_; rw [Hwd.out]; rintro e w' ⟨rfl, rfl⟩)
              go_round
              case rel => exact ⟨j + 1, by go_num, by omega, by omega, by unfold Hid; rw [hw.out, Hws.out]; omega⟩
              case measure => simp [intOf]; omega
            · have hws := wl_stop s j hjw
              have hwf : Hid (j < s.size → wordZ (bt s j) = false) := fun h => by simpa [h] using hjw
              have Hj := Lib.hid (show k + wl s k = j by rw [hw.out, hws]; omega)
              clear hjw hws hw
              by_cases hjk : j = k
              · have hjk2 : ((j : Int) == (k : Int)) = true := by simp [hjk]
                have Hz := Lib.hid (show tl s k = 0 by rw [Htl.out]; have := Hj.out; omega)
                clear hjk
                go_wp2_with (go_at_call 79; refine (ofWord_calls _ _ (by omega) (by omega)).mono ?_; rw [hwf.out (by omega)]; rintro e w' ⟨rfl, rfl⟩)
                all_goals
                  go_ret2
                  exact Hrel.out.bad hlt hbf Hz.out
              · have hjk2 : ((j : Int) == (k : Int)) = false := by simp; omega
                have hjk3 : k < j := by omega
                have Hz := Lib.hid (show j = k + tl s k by rw [Htl.out, Hj.out])
                clear hjk
                go_wp2_with (first
                  | (go_at_call 79; refine (ofWord_calls _ _ (by omega) (by omega)).mono ?_; rw [hwf.out (by omega)]; rintro e w' ⟨rfl, rfl⟩)
                  | (at_builtin; refine wpList_append_own _ rfl _ _ 76 rfl w.heap.size 149 i0 _ 3 32 Tryz.underlying76 hi hz0 hz1 hz2 rfl (by decide) _ _ _ rfl (hrow.alloc _) ⟨wr.heap.size, 0, none⟩ 1 1 [.string (s.extract k j), .int .i64 k, .bool false] rfl rfl ?c1 ?c2 ?c3 ?c4 ?c5 ?_; (case c1 => exact cells_new _ _ _); (case c2 => simp [Value.oneCell']); (case c3 => unfold maxLen; omega); (case c4 => omega); (case c5 => simp; omega); intro v' w1 hown' hgrow _))
                all_goals
                  go_roundw
                  case rel =>
                    have hwk : wordZ (bt s k) = true := by
                      rcases hq : wordZ (bt s k) with _ | _
                      · have := wl_stop s k (by rw [hq]; simp)
                        have := Hj.out
                        omega
                      · rfl
                    refine ⟨k + tl s k, by rw [← Hz.out], WordsRel.word hlt hbf (by have := Hz.out; omega) H2.out h3 ((Hext.out.alloc _).grown hgrow (by intro b hb; exact .inr ((hrow.lt b hb).1))) (by rw [← Hz.out, hwk]; exact hown')⟩
                  case measure => simp [intOf]; omega
    · go_wp2
      go_ret2
      exact hrel.done hlt
end Go.Proofs.YtkpholfdjgdjnaaGreatDoor
