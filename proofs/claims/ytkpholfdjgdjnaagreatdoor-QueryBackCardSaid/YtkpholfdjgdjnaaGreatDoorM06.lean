/- Texts of the claim, joined: S0 S1 S2 S3. -/
import Derived.Test.YtkpholfdjgdjnaaGreatDoorM05
import Derived.Test.YtkpholfdjgdjnaaGreatDoorM01
import Derived.Test.YtkpholfdjgdjnaaGreatDoorSh
namespace Go.Proofs.YtkpholfdjgdjnaaGreatDoor
open Go Go.RowKit Go.Proofs
structure Env (w : World) : Prop where
  tab : Lib.TabIs Tryz.prog w "internal/strconv.uint64pow10" .u64 Lib.pow10Tab
  syn : ∃ tp p, w.var? Tryz.prog "strconv.ErrSyntax" = some #[.iface tp p]
  rng : ∃ tp p, w.var? Tryz.prog "strconv.ErrRange" = some #[.iface tp p]
theorem var_ext {P : Program} {n : String} {cs : Array Value} {w w' : World} (h : w.var? P n = some cs) (e : Ext [] w w') : w'.var? P n = some cs := by
  unfold World.var? at *
  rcases hg : P.globalNamed n with _ | g
  · rw [hg] at h
    cases h
  · rw [hg, Option.bind_some] at h
    rw [Option.bind_some]
    rcases hb : w.heap[g]? with _ | o
    · rw [hb] at h
      cases h
    · rw [e.block g (Array.getElem?_eq_some_iff.1 hb).1 (by simp)]
      exact h
theorem Env.ext {w w' : World} (h : Env w) (e : Ext [] w w') : Env w' :=
  ⟨var_ext h.tab e, h.syn.imp fun _ => Exists.imp fun _ k => var_ext k e, h.rng.imp fun _ => Exists.imp fun _ k => var_ext k e⟩
def Based (w : World) (r a : Nat) : Prop := ∃ w0, Env w0 ∧ Ext [] w0 w ∧ w0.heap.size ≤ r ∧ w0.heap.size ≤ a
theorem Based.ext {w w' : World} {r a : Nat} (h : Based w r a) (e : Ext [r, a] w w') : Based w' r a := by
  obtain ⟨w0, h1, h2, h3, h4⟩ := h
  exact ⟨w0, h1, h2.step e (by intro x hx; simp at hx; right; omega), h3, h4⟩
theorem Based.env {w : World} {r a : Nat} (h : Based w r a) : Env w := by
  obtain ⟨w0, h1, h2, _⟩ := h
  exact h1.ext h2
def tokV (t : Tok) : List Value := [.string t.1, .int .i64 t.2]
def toksV (L : List Tok) : List Value := L.flatMap tokV
theorem toksV_length (l : List Tok) : (toksV l).length = l.length * 2 := by
  induction l with
  | nil => rfl
  | cons t T ih => simp only [toksV, List.flatMap_cons, List.length_append, List.length_cons] at *; simp [tokV, ih]; omega
theorem cell_lt {w : World} {b o : Nat} {v : Value} (h : w.cell? ⟨b, o, none⟩ = some v) : b < w.heap.size := by
  rcases Nat.lt_or_ge b w.heap.size with h1 | h1
  · exact h1
  · rw [World.cell?, Array.getElem?_eq_none (by simpa using h1)] at h
    cases h
theorem absB {P : Program} {f : Func} {post : Ending → World → Prop} {x : Exit} {a : Act} {w : World} (h : ∀ W, W = w → bodyPost P f post x a W) : bodyPost P f post x a w := h w rfl
structure All (w : World) (a r : Nat) (L : List Tok) (A : Option Addr) (c : Nat) : Prop where
  blk : Blk w a [.slice A L.length c] 68
  row : L ≠ [] → ∃ b o, A = some ⟨b, o, none⟩ ∧ b < a ∧ ∀ j, j < (toksV L).length → w.cell? ⟨b, o + j, none⟩ = some ((toksV L)[j]?.getD undef)
  cap : L.length ≤ c
  small : L.length ≤ 4096
  lt : a < r
theorem All.ext {S : List Nat} {w w' : World} {a r : Nat} {L : List Tok} {A : Option Addr} {c : Nat} (h : All w a r L A c) (e : Ext S w w') (ha : a ∉ S) (hS : ∀ x ∈ S, x = r) : All w' a r L A c :=
  ⟨h.blk.ext e ha, fun hne => by
    obtain ⟨b, o, rfl, hb, hc⟩ := h.row hne
    exact ⟨b, o, rfl, hb, fun j hj => e.keeps (hc j hj) (fun hm => by have := hS b hm; have := h.lt; omega)⟩, h.cap, h.small, h.lt⟩
def headOf (L : List Tok) : ByteArray × Nat × Bool := match L with
  | [] => (⟨#[]⟩, 0, false)
  | t :: _ => (t.1, t.2, true)
theorem next_nil (w : World) (a r : Nat) (A : Option Addr) (c : Nat) (h : All w a r [] A c) :
    Calls Tryz.prog 26 #[.pointer (some ⟨a, 0, none⟩)] w fun e w' => e = .returned (.tuple #[.agg #[.string ⟨#[]⟩, .int .i64 0], .bool false]) ∧ Ext [a] w w' ∧ All w' a r [] A c := by
  have c0 := h.blk.cell 0
  simp only [List.getElem?_cons_zero, List.length_nil] at c0
  have ha := h.blk.lt
  go_enter Tryz.func26, Tryz.ntmps26
  go_wp2_with fail
  refine bodyPost_ret (v := .tuple #[.agg #[.string ⟨#[]⟩, .int .i64 0], .bool false]) (by simp [results, Tryz.results26, go_sem]) rfl ?_
  have e : Ext [] w (w.alloc (Obj.cells #[Value.string { data := #[] }, Value.int IntKind.i64 0] 67)) := (Ext.refl [] w).alloc _
  exact ⟨rfl, (Ext.refl [a] w).alloc _, h.ext e (by simp) (by simp)⟩
theorem next_cons (w : World) (a r : Nat) (t : Tok) (L : List Tok) (A : Option Addr) (c : Nat) (h : All w a r (t :: L) A c) :
    Calls Tryz.prog 26 #[.pointer (some ⟨a, 0, none⟩)] w fun e w' => e = .returned (.tuple #[.agg #[.string t.1, .int .i64 t.2], .bool true]) ∧ Ext [a] w w' ∧ ∃ A' c', All w' a r L A' c' := by
  have c0 := h.blk.cell 0
  have f0 := h.blk.frozen 0
  have ha := h.blk.lt
  have hcap := h.cap
  have hsm := h.small
  simp only [List.getElem?_cons_zero, List.length_cons] at c0 hcap hsm
  obtain ⟨b, o, rfl, hb, hc⟩ := h.row (by simp)
  have hlt := h.lt
  have hb2 : b ≠ a := by omega
  have d0 := hc 0 (by rw [toksV_length]; simp)
  have d1 := hc 1 (by rw [toksV_length]; simp; omega)
  have HC := Lib.hid hc
  clear hc
  simp only [toksV, List.flatMap_cons, tokV, List.cons_append, List.getElem?_cons_zero, List.getElem?_cons_succ, Option.getD_some, Nat.add_zero] at d0 d1
  go_enter Tryz.func26, Tryz.ntmps26
  go_wp2_with fail
  refine absP ?_
  intro W hW
  have E0 : Ext [a] w W := by rw [hW]; exact (Ext.refl [a] w).alloc _
  have hbl : b < w.heap.size := cell_lt d0
  have D0 : W.cell? ⟨b, o, none⟩ = some (.string t.1) := E0.keeps d0 (by simpa using hb2)
  have D1 : W.cell? ⟨b, o + 1, none⟩ = some (.int .i64 t.2) := E0.keeps d1 (by simpa using hb2)
  have BA := h.blk.alloc (Obj.cells #[Value.string { data := #[] }, Value.int IntKind.i64 0] 67)
  rw [← hW] at BA
  have BN := Blk.new w [Value.string { data := #[] }, Value.int IntKind.i64 0] 67
  have BN' : Blk W w.heap.size [Value.string { data := #[] }, Value.int IntKind.i64 0] 67 := by rw [hW]; exact BN
  have C0 := BA.cell 0
  have F0 := BA.frozen 0
  have N0 := BN'.cell 0
  have N1 := BN'.cell 1
  have M0 := BN'.frozen 0
  have M1 := BN'.frozen 1
  simp only [List.getElem?_cons_zero, List.getElem?_cons_succ, List.length_cons] at C0 N0 N1
  generalize hn : w.heap.size = n at *
  clear hW BN c0 f0 d0 d1
  go_region
  generalize hA' : (if c = 1 then some (⟨b, o, none⟩ : Addr) else some ⟨b, o + 2, none⟩) = A'
  have hna : ¬ n = a := by omega
  have han : ¬ a = n := by omega
  go_wp2_with fail
  have e : Ext [a, n] W ((((((W.setCell ⟨n, 0, none⟩ (Value.string t.1)).setCell ⟨n, 1, none⟩ (.int .i64 t.2)).setCell ⟨a, 0, none⟩ (.slice A' L.length (c - 1))).setCell ⟨n, 0, none⟩ (Value.string t.1)).setCell ⟨n, 1, none⟩ (.int .i64 t.2)).drew) := ((((((Ext.refl [a, n] W).setCell _ (by simp) _).setCell _ (by simp) _).setCell _ (by simp) _).setCell _ (by simp) _).setCell _ (by simp) _).drew
  have BF : Blk _ n [.string t.1, .int .i64 t.2] 67 := ((((((BN'.set 0 (.string t.1)).set 1 (.int .i64 t.2)).ext ((Ext.refl [a] _).setCell ⟨a, 0, none⟩ (by simp) (.slice A' L.length (c - 1))) (by simpa using hna)).set 0 (.string t.1)).set 1 (.int .i64 t.2)).drew)
  have AF : Blk _ a [.slice A' L.length (c - 1)] 68 := (((((BA.ext (((Ext.refl [n] _).setCell ⟨n, 0, none⟩ (by simp) (.string t.1)).setCell ⟨n, 1, none⟩ (by simp) (.int .i64 t.2)) (by simpa using han)).set 0 (.slice A' L.length (c - 1))).ext (((Ext.refl [n] _).setCell ⟨n, 0, none⟩ (by simp) (.string t.1)).setCell ⟨n, 1, none⟩ (by simp) (.int .i64 t.2)) (by simpa using han)).drew))
  refine absB ?_
  intro WF hWF
  rw [← hWF] at e BF AF
  have q0 := BF.cell 0
  have q1 := BF.cell 1
  simp only [List.getElem?_cons_zero, List.getElem?_cons_succ] at q0 q1
  refine bodyPost_ret (v := .tuple #[.agg #[.string t.1, .int .i64 t.2], .bool true]) (by simp [results, Tryz.results26, go_sem, q0, q1]) rfl ?_
  refine ⟨rfl, ?_, A', c - 1, AF, ?_, by omega, by omega, hlt⟩
  · exact E0.step e (by intro x hx; simp at hx ⊢; omega)
  · intro hne
    refine ⟨b, o + 2, ?_, hb, fun j hj => ?_⟩
    · rw [← hA', if_neg ?_]
      have := List.length_pos_iff.2 hne
      omega
    · have hc := HC.out (j + 2) (by rw [toksV_length] at *; simp; omega)
      have h2 : (toksV (t :: L))[j + 2]? = (toksV L)[j]? := rfl
      rw [h2] at hc
      have := (E0.step e (by intro x hx; simp at hx ⊢; omega)).keeps hc (by simpa using hb2)
      rw [show o + 2 + j = o + (j + 2) by omega]
      exact this
structure PR (w : World) (r a : Nat) (L : List Tok) (size : Nat) : Prop where
  blk : Blk w r [.func (.func 26) #[] #[.pointer (some ⟨a, 0, none⟩)], .string (match L with | [] => ⟨#[]⟩ | t :: _ => t.1), .int .i64 (match L with | [] => size | t :: _ => t.2), .bool (!L.isEmpty), .int .i64 size] 74
  all : ∃ A c, All w a r L.tail A c
  ne : a < r
  small : size ≤ 4096 ∧ L.length ≤ 4096
  toks : ∀ t ∈ L, TokOk t.1
  base : Based w r a
theorem PR.ext {S : List Nat} {w w' : World} {r a : Nat} {L : List Tok} {size : Nat} (h : PR w r a L size) (e : Ext S w w') (hS : S = []) : PR w' r a L size := by
  subst hS
  obtain ⟨A, c, ha⟩ := h.all
  exact ⟨h.blk.ext e (by simp), ⟨A, c, ha.ext e (by simp) (by simp)⟩, h.ne, h.small, h.toks, h.base.ext (e.mono (by simp))⟩
theorem PR.keep {w w' : World} {r a : Nat} {L : List Tok} {size : Nat} (h : PR w r a L size) (e : Ext [] w w') : PR w' r a L size := h.ext e rfl
theorem step_nil (w : World) (r a : Nat) (A : Option Addr) (c : Nat) (size : Nat) (x : ByteArray) (y : Int) (z : Bool) (hb : Blk w r [.func (.func 26) #[] #[.pointer (some ⟨a, 0, none⟩)], .string x, .int .i64 y, .bool z, .int .i64 size] 74) (hA : All w a r [] A c) (hne : a < r) (hs : size ≤ 4096) (hB : Based w r a) :
    Calls Tryz.prog 28 #[.pointer (some ⟨r, 0, none⟩)] w fun e w' => e = .returned (.tuple #[]) ∧ Ext [r, a] w w' ∧ PR w' r a [] size := by
  have c0 := hb.cell 0
  have c1 := hb.cell 1
  have c2 := hb.cell 2
  have c3 := hb.cell 3
  have c4 := hb.cell 4
  have f1 := hb.frozen 1
  have f2 := hb.frozen 2
  have f3 := hb.frozen 3
  simp only [List.getElem?_cons_zero, List.getElem?_cons_succ] at c0 c1 c2 c3 c4
  go_enter Tryz.func28, Tryz.ntmps28
  have hra : r ∉ [a] := by simp; omega
  go_wp2_with (go_at_call 26; refine (next_nil w a r A c hA).mono ?_; rintro e w1 ⟨rfl, E1, A1⟩; have B1 := hb.ext E1 hra; have d1 := B1.cell 1; have d2 := B1.cell 2; have d3 := B1.cell 3; have d4 := B1.cell 4; have g1 := B1.frozen 1; have g2 := B1.frozen 2; have g3 := B1.frozen 3; simp only [List.getElem?_cons_zero, List.getElem?_cons_succ] at d1 d2 d3 d4)
  go_end0
  have e : Ext [r] w1 _ := (((((Ext.refl [r] w1).setCell ⟨r, 1, none⟩ (by simp) (.string ⟨#[]⟩)).setCell ⟨r, 2, none⟩ (by simp) (.int .i64 0)).setCell ⟨r, 3, none⟩ (by simp) (.bool false)).setCell ⟨r, 1, none⟩ (by simp) (.string ⟨#[]⟩)).setCell ⟨r, 2, none⟩ (by simp) (.int .i64 size)
  refine ⟨rfl, (E1.mono (by simp)).trans (e.mono (by simp)), ?_, ⟨A, c, A1.ext e (by simp; omega) (by simp)⟩, hne, ⟨hs, by simp⟩, by simp, hB.ext ((E1.mono (by simp)).trans (e.mono (by simp)))⟩
  exact ((((B1.set 1 (.string ⟨#[]⟩)).set 2 (.int .i64 0)).set 3 (.bool false)).set 1 (.string ⟨#[]⟩)).set 2 (.int .i64 size)
theorem step_cons (w : World) (r a : Nat) (A : Option Addr) (c : Nat) (size : Nat) (t : Tok) (L : List Tok) (x : ByteArray) (y : Int) (z : Bool) (hb : Blk w r [.func (.func 26) #[] #[.pointer (some ⟨a, 0, none⟩)], .string x, .int .i64 y, .bool z, .int .i64 size] 74) (hA : All w a r (t :: L) A c) (hne : a < r) (hs : size ≤ 4096) (hB : Based w r a) (hT : ∀ t' ∈ t :: L, TokOk t'.1) :
    Calls Tryz.prog 28 #[.pointer (some ⟨r, 0, none⟩)] w fun e w' => e = .returned (.tuple #[]) ∧ Ext [r, a] w w' ∧ PR w' r a (t :: L) size := by
  have c0 := hb.cell 0
  have c1 := hb.cell 1
  have c2 := hb.cell 2
  have c3 := hb.cell 3
  have c4 := hb.cell 4
  have f1 := hb.frozen 1
  have f2 := hb.frozen 2
  have f3 := hb.frozen 3
  simp only [List.getElem?_cons_zero, List.getElem?_cons_succ] at c0 c1 c2 c3 c4
  go_enter Tryz.func28, Tryz.ntmps28
  have hra : r ∉ [a] := by simp; omega
  have hsm := hA.small
  go_wp2_with (go_at_call 26; refine (next_cons w a r t L A c hA).mono ?_; rintro e w1 ⟨rfl, E1, A1⟩; have B1 := hb.ext E1 hra; have d1 := B1.cell 1; have d2 := B1.cell 2; have d3 := B1.cell 3; have d4 := B1.cell 4; have g1 := B1.frozen 1; have g2 := B1.frozen 2; have g3 := B1.frozen 3; simp only [List.getElem?_cons_zero, List.getElem?_cons_succ] at d1 d2 d3 d4)
  go_end0
  have e : Ext [r] w1 _ := ((((Ext.refl [r] w1).setCell ⟨r, 1, none⟩ (by simp) (.string t.1)).setCell ⟨r, 2, none⟩ (by simp) (.int .i64 t.2)).setCell ⟨r, 3, none⟩ (by simp) (.bool true))
  obtain ⟨A', c', A1⟩ := A1
  refine ⟨rfl, (E1.mono (by simp)).trans (e.mono (by simp)), ?_, ⟨A', c', A1.ext e (by simp; omega) (by simp)⟩, hne, ⟨hs, hsm⟩, hT, hB.ext ((E1.mono (by simp)).trans (e.mono (by simp)))⟩
  exact (((B1.set 1 (.string t.1)).set 2 (.int .i64 t.2)).set 3 (.bool true))
theorem step_calls (w : World) (r a : Nat) (L : List Tok) (size : Nat) (h : PR w r a L size) :
    Calls Tryz.prog 28 #[.pointer (some ⟨r, 0, none⟩)] w fun e w' => e = .returned (.tuple #[]) ∧ Ext [r, a] w w' ∧ PR w' r a L.tail size := by
  obtain ⟨A, c, hA⟩ := h.all
  rcases hL : L.tail with _ | ⟨t, L'⟩
  · rw [hL] at hA
    exact step_nil w r a A c size _ _ _ h.blk hA h.ne h.small.1 h.base
  · rw [hL] at hA
    exact step_cons w r a A c size t L' _ _ _ h.blk hA h.ne h.small.1 h.base (fun t' ht => h.toks t' (List.mem_of_mem_tail (by rw [hL]; exact ht)))
theorem PR.set_new {w : World} {r a : Nat} {L : List Tok} {size : Nat} (h : PR w r a L size) (p : Addr) (v : Value) (hp : r < p.block) : PR (w.setCell p v) r a L size := by
  have hlt := h.ne
  obtain ⟨A, c, hA⟩ := h.all
  obtain ⟨w0, h1, h2, h3, h4⟩ := h.base
  refine ⟨h.blk.set_other p (by omega) v, ⟨A, c, hA.blk.set_other p (by omega) v, fun hne => ?_, hA.cap, hA.small, hA.lt⟩, h.ne, h.small, h.toks, w0, h1, h2.setCell p (.inr (by omega)) v, h3, h4⟩
  obtain ⟨b, o, hb, hb2, hc⟩ := hA.row hne
  exact ⟨b, o, hb, hb2, fun j hj => ((Ext.refl [p.block] w).setCell p (by simp) v).keeps (hc j hj) (by simp; omega)⟩
end Go.Proofs.YtkpholfdjgdjnaaGreatDoor
namespace Go.Proofs.YtkpholfdjgdjnaaGreatDoor
open Go Go.RowKit Go.Proofs
def markV (at_ e : Int) : Value := .iface 28 (.agg #[.int .i64 at_, .int .i64 e])
def thrown (at_ e : Nat) : Ending := .panicked [{ v := markV at_ e, recovered := false }]
theorem PR.at_ {w : World} {r a : Nat} {L : List Tok} {size : Nat} (h : PR w r a L size) : w.cell? ⟨r, 2, none⟩ = some (.int .i64 (atOf size L)) := by
  rw [h.blk.cell 2]
  cases L <;> rfl
theorem PR.ok {w : World} {r a : Nat} {L : List Tok} {size : Nat} (h : PR w r a L size) : w.cell? ⟨r, 3, none⟩ = some (.bool (!L.isEmpty)) := by
  rw [h.blk.cell 3]
  rfl
def whatOf (L : List Tok) : ByteArray := match L with | [] => ⟨#[]⟩ | t :: _ => t.1
theorem PR.what {w : World} {r a : Nat} {L : List Tok} {size : Nat} (h : PR w r a L size) : w.cell? ⟨r, 1, none⟩ = some (.string (whatOf L)) := by
  rw [h.blk.cell 1]
  cases L <;> rfl
theorem throw_calls (w : World) (r a : Nat) (L : List Tok) (size : Nat) (e : Nat) (h : PR w r a L size) :
    Calls Tryz.prog 76 #[.pointer (some ⟨r, 0, none⟩), .int .i64 e] w fun x w' => x = thrown (atOf size L) e ∧ w' = w := by
  have c2 := h.at_
  go_enter Tryz.func76, Tryz.ntmps76
  go_wp2_with fail
  exact ⟨rfl, rfl, rfl⟩
theorem has_calls (w : World) (r a : Nat) (L : List Tok) (size : Nat) (s : ByteArray) (h : PR w r a L size) (x : Bool) (hx : pHas s L = x) :
    Calls Tryz.prog 72 #[.pointer (some ⟨r, 0, none⟩), .string s] w fun e w' => e = .returned (.bool x) ∧ Ext [r, a] w w' ∧ PR w' r a (if x then L.tail else L) size := by
  have c3 := h.ok
  have c1 := h.what
  go_enter Tryz.func72, Tryz.ntmps72
  cases L with
  | nil =>
    obtain rfl : x = false := by rw [← hx]; rfl
    clear hx
    have hh := Lib.hid h
    clear h
    simp only [List.isEmpty_nil, Bool.not_true] at c3
    go_wp2_with fail
    go_ret
    exact ⟨rfl, Ext.refl _ _, hh.out⟩
  | cons t L =>
    have hw : whatOf (t :: L) = t.1 := rfl
    simp only [List.isEmpty_cons, Bool.not_false] at c3
    rw [hw] at c1
    by_cases hs : t.1 = s
    · obtain rfl : x = true := by rw [← hx]; simp [pHas, hs]
      have hh := Lib.hid h
      clear hx h
      subst hs
      have hb : (t.1.toList == t.1.toList) = true := by rw [str_eq]; simp
      go_wp2_with (go_at_call 28; refine (step_calls w r a (t :: L) size hh.out).mono ?_; rintro e w1 ⟨rfl, E1, P1⟩)
      go_ret
      exact ⟨rfl, E1, P1⟩
    · obtain rfl : x = false := by rw [← hx]; simp [pHas, hs]
      clear hx
      have hb : (t.1.toList == s.toList) = false := by rw [str_eq]; simpa using hs
      have hh := Lib.hid h
      clear hs h
      go_wp2_with fail
      go_ret
      exact ⟨rfl, Ext.refl _ _, hh.out⟩
def PDone {α : Type} (enc : α → Value) (res : Res α) (w : World) (r a size : Nat) (x : Ending) (w' : World) : Prop :=
  Ext [r, a] w w' ∧ match res with
    | .ok (v, L) => x = .returned (enc v) ∧ PR w' r a L size
    | .error (p, c) => x = thrown p c
theorem pwant_calls (w : World) (r a : Nat) (L : List Tok) (size : Nat) (s : ByteArray) (h : PR w r a L size) :
    Calls Tryz.prog 128 #[.pointer (some ⟨r, 0, none⟩), .string s] w (PDone (fun _ => .tuple #[]) (pWant size s L) w r a size) := by
  have hh := Lib.hid h
  clear h
  rcases hx : pHas s L with _ | _
  · have hp : Hid (pWant size s L = .error (atOf size L, 61)) := by unfold Hid pWant; rw [hx]; rfl
    have Hx := Lib.hid hx
    clear hx
    go_enter Tryz.func128, Tryz.ntmps128
    go_wp2_with (first
      | (go_at_call 72; refine (has_calls w r a L size s hh.out false Hx.out).mono ?_; rintro e w1 ⟨rfl, E1, P1⟩; simp only [Bool.false_eq_true, if_false] at P1)
      | (go_at_call 76; refine (throw_calls w1 r a L size 61 P1).mono ?_; rintro e w2 ⟨rfl, rfl⟩; unfold thrown))
    refine ⟨rfl, E1, ?_⟩
    rw [hp.out]
    rfl
  · have hp : Hid (pWant size s L = .ok ((), L.tail)) := by unfold Hid pWant; rw [hx]; rfl
    have Hx := Lib.hid hx
    clear hx
    go_enter Tryz.func128, Tryz.ntmps128
    go_wp2_with (first
      | (go_at_call 72; refine (has_calls w r a L size s hh.out true Hx.out).mono ?_; rintro e w1 ⟨rfl, E1, P1⟩; simp only [if_true] at P1))
    go_end0
    refine ⟨E1, ?_⟩
    rw [hp.out]
    exact ⟨rfl, P1⟩
theorem ptake_calls (w : World) (r a : Nat) (L : List Tok) (size : Nat) (h : PR w r a L size) :
    Calls Tryz.prog 129 #[.pointer (some ⟨r, 0, none⟩)] w fun x w' => x = .returned (.string (whatOf L)) ∧ Ext [r, a] w w' ∧ PR w' r a L.tail size := by
  have hh := Lib.hid h
  have c1 := h.what
  clear h
  go_enter Tryz.func129, Tryz.ntmps129
  go_wp2_with (go_at_call 28; refine (step_calls w r a L size hh.out).mono ?_; rintro e w1 ⟨rfl, E1, P1⟩)
  go_ret
  exact ⟨rfl, E1, P1⟩
end Go.Proofs.YtkpholfdjgdjnaaGreatDoor
namespace Go.Proofs.YtkpholfdjgdjnaaGreatDoor
open Go Go.RowKit Go.Proofs
theorem namesFrom_iff (s : ByteArray) (k : Nat) : namesFrom s k = true ↔ ∀ i, k ≤ i → i < s.size → nameZ (bt s i) = true := by
  induction h : s.size - k generalizing k with
  | zero =>
    rw [namesFrom, dif_neg (by omega)]
    simp
    intro i h1 h2
    omega
  | succ n ih =>
    rw [namesFrom, dif_pos (by omega)]
    split
    · rename_i h1
      rw [ih (k + 1) (by omega)]
      constructor
      · intro h2 i h3 h4
        rcases Nat.eq_or_lt_of_le h3 with rfl | h3
        · exact h1
        · exact h2 i h3 h4
      · intro h2 i h3 h4
        exact h2 i (by omega) h4
    · rename_i h1
      constructor
      · intro h2
        cases h2
      · intro h2
        exact absurd (h2 k (Nat.le_refl _) (by omega)) h1
theorem bt_byte (s : ByteArray) (i : Nat) (h : i < s.size) : bt s i = (s.data.toList[i]'(by simpa using h)).toNat := by
  unfold bt
  rw [dif_pos h]
  rfl
theorem dash_iff (s : ByteArray) : (0 ≤ Lib.indexByte s.data.toList 45) ↔ ∃ i, i < s.size ∧ bt s i = 45 := by
  have hg := Lib.indexByte_ge s.data.toList 45
  constructor
  · intro h
    obtain ⟨o, ho⟩ : ∃ o : Nat, Lib.indexByte s.data.toList 45 = o := ⟨(Lib.indexByte s.data.toList 45).toNat, by omega⟩
    have h1 := (Lib.indexByte_some ho).1
    obtain ⟨h2, h3⟩ := List.getElem?_eq_some_iff.1 h1
    have h2' : o < s.size := by simpa using h2
    refine ⟨o, h2', ?_⟩
    rw [bt_byte s o h2', h3]
    rfl
  · rintro ⟨i, h1, h2⟩
    rcases Int.lt_or_le (Lib.indexByte s.data.toList 45) 0 with hlt | hle
    · exfalso
      have := Lib.indexByte_none (l := s.data.toList) (c := 45) (by omega) i
      apply this
      rw [List.getElem?_eq_getElem (by simpa using h1)]
      rw [bt_byte s i h1] at h2
      congr 1
      apply UInt8.toNat_inj.1
      have : (45 : UInt8).toNat = 45 := rfl
      omega
    · exact hle
theorem nameZ_word {c : Int} (h : wordZ c = true) : nameZ c = true ↔ c ≠ 45 := by
  unfold wordZ at h
  unfold nameZ
  simp only [Bool.or_eq_true, Bool.and_eq_true, decide_eq_true_eq, beq_iff_eq] at *
  omega
theorem nameZ_is_word {c : Int} (h : nameZ c = true) : wordZ c = true := by
  unfold wordZ
  unfold nameZ at h
  simp only [Bool.or_eq_true, Bool.and_eq_true, decide_eq_true_eq, beq_iff_eq] at *
  omega
theorem nameOk_tok (s : ByteArray) (h : TokOk s) : nameOk s = (decide (s.size ≤ 16) && (wordZ (bt s 0) && !decide (0 ≤ Lib.indexByte s.data.toList 45))) := by
  rw [Bool.eq_iff_iff]
  unfold nameOk
  simp only [Bool.and_eq_true, decide_eq_true_eq, namesFrom_iff, Bool.not_eq_true', decide_eq_false_iff_not, dash_iff]
  constructor
  · rintro ⟨⟨h1, h2⟩, h3⟩
    refine ⟨h3, nameZ_is_word (h1 0 (Nat.le_refl _) h.1), ?_⟩
    rintro ⟨i, hi, h4⟩
    have := h1 i (Nat.zero_le _) hi
    exact (nameZ_word (nameZ_is_word this)).1 this h4
  · rintro ⟨h1, h2, h3⟩
    refine ⟨⟨fun i _ hi => ?_, h.1⟩, h1⟩
    exact (nameZ_word (h.2.2 h2 i hi)).2 (fun h4 => h3 ⟨i, hi, h4⟩)
theorem toList_empty {s : ByteArray} (h : 0 < s.size) : s.toList.isEmpty = false := by
  have h1 : (s.toList == (⟨#[]⟩ : ByteArray).toList) = false := by
    rw [str_eq]
    have : s ≠ ⟨#[]⟩ := by
      rintro rfl
      exact absurd h (by decide)
    simpa using this
  have h2 : (⟨#[]⟩ : ByteArray).toList = [] := by unfold ByteArray.toList; rw [ByteArray.toList.loop]; exact if_neg (by decide)
  rw [h2] at h1
  cases h3 : s.toList with
  | nil => rw [h3] at h1; cases h1
  | cons a l => rfl
theorem pname_calls (s : ByteArray) (w : World) (h : TokOk s) :
    Calls Tryz.prog 86 #[.string s] w fun e w' => e = .returned (.bool (nameOk s)) ∧ w' = w := by
  have h0 := h.1
  have hsz := h.2.1
  have hr := bt_range s 0
  have hne := toList_empty h0
  have hb0 := bt_at s 0 h0
  rw [nameOk_tok s h]
  clear h
  by_cases h1 : s.size ≤ 16
  · rcases h2 : wordZ (bt s 0) with _ | _
    · have H2 := Lib.hid h2
      clear h2
      go_enter Tryz.func86, Tryz.ntmps86
      go_wp2_with (go_at_call 68; refine (wordByte_calls (bt s 0) w hr.1 hr.2).mono ?_; rw [H2.out]; rintro e w' ⟨rfl, rfl⟩)
      go_ret
      simp
    · have H2 := Lib.hid h2
      clear h2
      go_enter Tryz.func86, Tryz.ntmps86
      go_wp2_with (first
        | (go_at_call 68; refine (wordByte_calls (bt s 0) w hr.1 hr.2).mono ?_; rw [H2.out]; rintro e w' ⟨rfl, rfl⟩)
        | (go_at_call 135; refine (Tryz.strings_Contains_one s 45 w).mono ?_; rintro e w' ⟨rfl, rfl⟩))
      go_ret
      simp [h1]
  · go_enter Tryz.func86, Tryz.ntmps86
    go_wp2_with fail
    go_ret
    simp [h1]
end Go.Proofs.YtkpholfdjgdjnaaGreatDoor
namespace Go.Proofs.YtkpholfdjgdjnaaGreatDoor
open Go Go.RowKit Go.Proofs
def dv (x : Nat) : List UInt8 → Option Nat
  | [] => some x
  | c :: r => if 48 ≤ c.toNat ∧ c.toNat ≤ 57 then dv (x * 10 + (c.toNat - 48)) r else none
theorem dv_snoc (l : List UInt8) (c : UInt8) : ∀ x, dv x (l ++ [c]) = (dv x l).bind (fun y => if 48 ≤ c.toNat ∧ c.toNat ≤ 57 then some (y * 10 + (c.toNat - 48)) else none) := by
  induction l with
  | nil =>
    intro x
    simp only [List.nil_append, dv, Option.bind_some]
  | cons d l ih =>
    intro x
    simp only [List.cons_append, dv]
    split
    · exact ih _
    · rfl
theorem dv_ge (l : List UInt8) : ∀ x u, dv x l = some u → x ≤ u := by
  induction l with
  | nil =>
    intro x u h
    simp only [dv] at h
    injection h with h
    omega
  | cons c l ih =>
    intro x u h
    simp only [dv] at h
    split at h
    · have := ih _ _ h
      omega
    · cases h
theorem digit_ofNat (u : Nat) (h : u < 10) : (UInt8.ofNat (48 + u)).toNat = 48 + u := by
  simp
  omega
theorem dv_decDigits (u : Nat) : dv 0 (Lib.decDigits u) = some u := by
  induction u using Nat.strongRecOn with
  | _ u ih =>
    rw [Lib.decDigits]
    split
    · rename_i h
      simp only [dv]
      rw [digit_ofNat u h, if_pos (by omega)]
      congr 1
      omega
    · rename_i h
      rw [dv_snoc, ih (u / 10) (by omega), Option.bind_some, digit_ofNat _ (by omega), if_pos (by omega)]
      congr 1
      omega
theorem decDigits_ne (u : Nat) : Lib.decDigits u ≠ [] := by
  rw [Lib.decDigits]
  split <;> simp
theorem decDigits_head (u : Nat) : ∃ c r, Lib.decDigits u = c :: r ∧ 48 ≤ c.toNat ∧ c.toNat ≤ 57 ∧ (c.toNat = 48 → u = 0) := by
  induction u using Nat.strongRecOn with
  | _ u ih =>
    rw [Lib.decDigits]
    split
    · rename_i h
      refine ⟨_, [], rfl, ?_⟩
      rw [digit_ofNat u h]
      omega
    · rename_i h
      obtain ⟨c, r, h1, h2, h3, h4⟩ := ih (u / 10) (by omega)
      rw [h1]
      refine ⟨c, _, rfl, h2, h3, fun h5 => ?_⟩
      have := h4 h5
      omega
theorem dv_one_form : ∀ (n : Nat) (l : List UInt8) (u : Nat), l.length = n → l ≠ [] → (∀ c r, l = c :: r → c.toNat = 48 → r = []) → dv 0 l = some u → l = Lib.decDigits u := by
  intro n
  induction n with
  | zero =>
    intro l u h1 h2
    exact absurd (List.length_eq_zero_iff.1 h1) h2
  | succ n ih =>
    intro l u h1 h2 h3 h4
    obtain ⟨l', c, rfl⟩ : ∃ l' c, l = l' ++ [c] := ⟨l.dropLast, l.getLast h2, (List.dropLast_concat_getLast h2).symm⟩
    rw [dv_snoc] at h4
    rcases h5 : dv 0 l' with _ | y
    · rw [h5] at h4
      cases h4
    · rw [h5, Option.bind_some] at h4
      split at h4
      · rename_i h6
        injection h4 with h4
        cases l' with
        | nil =>
          simp only [dv] at h5
          injection h5 with h5
          subst h5
          rw [Lib.decDigits, dif_pos (by omega)]
          simp only [List.nil_append]
          congr 1
          apply UInt8.toNat_inj.1
          rw [digit_ofNat u (by omega)]
          omega
        | cons d r =>
          have h7 := ih (d :: r) y (by simpa using h1) (by simp) (fun c' r' he hc => by
            injection he with he1 he2
            subst he1 he2
            have := h3 d (r ++ [c]) rfl hc
            simp at this) h5
          have hy : y ≠ 0 := by
            rintro rfl
            rw [Lib.decDigits, dif_pos (by omega)] at h7
            injection h7 with h8 h9
            have := h3 d (r ++ [c]) rfl (by rw [h8]; rfl)
            simp at this
          rw [Lib.decDigits, dif_neg (by omega), h7]
          congr 1
          · congr 1
            omega
          · congr 1
            apply UInt8.toNat_inj.1
            rw [digit_ofNat _ (by omega)]
            omega
      · cases h4
theorem nd_le (k : Nat) : ∀ u, u < 10 ^ (k + 1) → Lib.nDigits u ≤ k + 1 := by
  induction k with
  | zero =>
    intro u h
    rw [Lib.nDigits_small (by simpa using h)]
    omega
  | succ k ih =>
    intro u h
    by_cases hu : u < 10
    · rw [Lib.nDigits_small hu]
      omega
    · rw [Lib.nDigits_big hu]
      have := ih (u / 10) (by rw [Nat.pow_succ] at h; omega)
      omega
theorem parseM_dv (M : Nat) (hM : M ≤ 18446744073709551615) (l : List UInt8) : ∀ x u, dv x l = some u → u ≤ M → Lib.parseUintM M x l = .ok u := by
  induction l with
  | nil =>
    intro x u h _
    simp only [dv] at h
    injection h with h
    rw [h]
    rfl
  | cons c l ih =>
    intro x u h hu
    simp only [dv] at h
    split at h
    · rename_i hc
      have hg := dv_ge l _ _ h
      simp only [Lib.parseUintM]
      rw [if_pos hc, if_neg (by omega), if_neg (by omega)]
      exact ih _ _ h hu
    · cases h
theorem digitsFrom_dv (s : ByteArray) (i : Nat) : ∀ x : Nat, digitsFrom s i x = (dv x (s.data.toList.drop i)).map (fun y => (y : Int)) := by
  induction h : s.size - i generalizing i with
  | zero =>
    intro x
    rw [digitsFrom, dif_neg (by omega), List.drop_of_length_le (by simp; omega)]
    rfl
  | succ n ih =>
    intro x
    have hi : i < s.size := by omega
    rw [digitsFrom, dif_pos hi, List.drop_eq_getElem_cons (by simpa using hi)]
    have hb := bt_byte s i hi
    simp only [dv]
    by_cases hd : 48 ≤ (s.data.toList[i]'(by simpa using hi)).toNat ∧ (s.data.toList[i]'(by simpa using hi)).toNat ≤ 57
    · rw [if_pos hd, if_neg (by omega), ← ih (i + 1) (by omega)]
      congr 1
      omega
    · rw [if_neg hd, if_pos (by omega)]
      rfl
theorem bt_head {s : ByteArray} {c : UInt8} {r : List UInt8} (h : s.data.toList = c :: r) : 0 < s.size ∧ s.size = r.length + 1 ∧ bt s 0 = c.toNat := by
  have h1 : s.size = r.length + 1 := by
    have : s.data.toList.length = r.length + 1 := by rw [h]; rfl
    simpa using this
  refine ⟨by omega, h1, ?_⟩
  rw [bt_byte s 0 (by omega)]
  simp [h]
theorem bt_second {s : ByteArray} {c d : UInt8} {r : List UInt8} (h : s.data.toList = c :: d :: r) : bt s 1 = d.toNat := by
  have h1 := (bt_head h).2.1
  rw [bt_byte s 1 (by simp at h1; omega)]
  simp [h]
theorem cap_pos {x n : Int} (h : capPos x = some n) : x = n ∧ x < lim63 := by
  unfold capPos at h
  split at h
  · injection h with h
    exact ⟨h, by assumption⟩
  · cases h
theorem cap_neg {x n : Int} (h : capNeg x = some n) : n = -x ∧ x ≤ lim63 := by
  unfold capNeg at h
  split at h
  · injection h with h
    exact ⟨h.symm, by assumption⟩
  · cases h
theorem numOf_form {s : ByteArray} {n : Int} (h : numOf s = some n) : s.data.toList = Lib.itoa n ∧ -lim63 ≤ n ∧ n < lim63 := by
  unfold numOf at h
  split at h
  · rename_i h0
    split at h
    · cases h
    · rename_i h1
      rcases hd : digitsFrom s 1 0 with _ | x
      · rw [hd] at h
        cases h
      · rw [hd, Option.bind_some] at h
        obtain ⟨rfl, hx⟩ := cap_neg h
        have h2 := digitsFrom_dv s 1 0
        rw [show ((0 : Nat) : Int) = 0 from rfl, hd] at h2
        rcases hv : dv 0 (s.data.toList.drop 1) with _ | u
        · rw [hv] at h2
          cases h2
        · rw [hv] at h2
          obtain rfl : x = (u : Int) := Option.some.inj h2
          rcases hl : s.data.toList with _ | ⟨c, r⟩
          · have h9 : s.size = 0 := (Array.length_toList (xs := s.data)).symm.trans (by rw [hl]; rfl)
            omega
          · obtain ⟨h4, h5, h6⟩ := bt_head hl
            rw [hl, List.drop_one, List.tail_cons] at hv
            obtain rfl : c = 45 := by
              apply UInt8.toNat_inj.1
              have : (45 : UInt8).toNat = 45 := rfl
              omega
            rcases r with _ | ⟨d, r⟩
            · simp at h5
              omega
            · have h7 := bt_second hl
              have hr := dv_one_form _ (d :: r) u rfl (by simp) (fun c' r' he hc => by
                injection he with he1 he2
                subst he1
                omega) hv
              have hu : 1 ≤ u := by
                rcases Nat.eq_zero_or_pos u with rfl | h8
                · obtain ⟨c', r', h9, _, _, _⟩ := decDigits_head 0
                  rw [Lib.decDigits, dif_pos (by omega)] at hr
                  injection hr with hr1 hr2
                  subst hr1
                  have : bt s 1 = 48 := h7
                  omega
                · exact h8
              rw [Lib.itoa_neg u hu, hr]
              have hl0 : 0 < lim63 := by decide
              exact ⟨rfl, by omega, by omega⟩
  · rename_i h0
    split at h
    · cases h
    · rename_i h1
      rcases hd : digitsFrom s 0 0 with _ | x
      · rw [hd] at h
        cases h
      · rw [hd, Option.bind_some] at h
        obtain ⟨rfl, hx⟩ := cap_pos h
        have h2 := digitsFrom_dv s 0 0
        rw [show ((0 : Nat) : Int) = 0 from rfl, hd, List.drop_zero] at h2
        rcases hv : dv 0 s.data.toList with _ | u
        · rw [hv] at h2
          cases h2
        · rw [hv] at h2
          obtain rfl : x = (u : Int) := Option.some.inj h2
          rcases hl : s.data.toList with _ | ⟨c, r⟩
          · have h9 : s.size = 0 := (Array.length_toList (xs := s.data)).symm.trans (by rw [hl]; rfl)
            omega
          · obtain ⟨h4, h5, h6⟩ := bt_head hl
            rw [hl] at hv
            have hr := dv_one_form _ (c :: r) u rfl (by simp) (fun c' r' he hc => by
                have he1 : c = c' := List.head_eq_of_cons_eq he
                have he2 : r = r' := List.tail_eq_of_cons_eq he
                subst he1 he2
                have h8 : bt s 0 = 48 := by rw [h6, hc]; rfl
                have h9 : ¬ 1 < s.size := fun h9 => h1 (.inr (.inr ⟨h8, h9⟩))
                clear h1 hd hx hv h2
                exact List.length_eq_zero_iff.1 (by omega)) hv
            rw [Lib.itoa_nonneg u, hr]
            have hl0 : 0 < lim63 := by decide
            exact ⟨rfl, by omega, hx⟩
theorem size_list {s : ByteArray} {l : List UInt8} (h : s.data.toList = l) : s.size = l.length := (Array.length_toList (xs := s.data)).symm.trans (by rw [h])
theorem small_digits {u : Nat} (h : (u : Int) ≤ lim63) : (Lib.decDigits u).length ≤ 19 := by
  rw [Lib.decDigits_length]
  refine nd_le 18 u ?_
  have e : 10 ^ (18 + 1) = 10000000000000000000 := by decide
  rw [e]
  unfold lim63 at h
  omega
theorem cap_pos' {x : Int} (h : x < lim63) : capPos x = some x := if_pos h
theorem cap_neg' {x : Int} (h : x ≤ lim63) : capNeg x = some (-x) := if_pos h
theorem numOf_itoa {s : ByteArray} {n : Int} (h : s.data.toList = Lib.itoa n) (h1 : -lim63 ≤ n) (h2 : n < lim63) : numOf s = some n := by
  rcases Int.lt_or_le n 0 with hn | hn
  · obtain ⟨u, rfl⟩ : ∃ u : Nat, n = -(u : Int) := ⟨n.natAbs, by omega⟩
    have hu : 1 ≤ u := by omega
    rw [Lib.itoa_neg u hu] at h
    obtain ⟨c, r, hc, hc1, hc2, hc3⟩ := decDigits_head u
    have hlen := small_digits (u := u) (by omega)
    have hsz := size_list h
    rw [List.length_cons] at hsz
    have hv := dv_decDigits u
    have hd := digitsFrom_dv s 1 0
    rw [h, List.drop_one, List.tail_cons, hv] at hd
    rw [hc] at h hsz hlen
    have hb := (bt_head h).2.2
    have hb1 := bt_second h
    rw [List.length_cons] at hsz hlen
    unfold numOf
    rw [if_pos (by rw [hb]; rfl), if_neg ?_]
    · have hd2 : digitsFrom s 1 0 = some (u : Int) := hd
      rw [hd2, Option.bind_some, cap_neg' (by omega)]
    · rintro (h3 | h3 | h3)
      · omega
      · omega
      · rw [h3] at hb1
        have : c.toNat = 48 := by omega
        have := hc3 this
        omega
  · obtain ⟨u, rfl⟩ : ∃ u : Nat, n = (u : Int) := ⟨n.toNat, by omega⟩
    rw [Lib.itoa_nonneg u] at h
    obtain ⟨c, r, hc, hc1, hc2, hc3⟩ := decDigits_head u
    have hlen := small_digits (u := u) (by omega)
    have hsz := size_list h
    have hv := dv_decDigits u
    have hd := digitsFrom_dv s 0 0
    rw [List.drop_zero, h, hv] at hd
    have hz : u = 0 → s.size = 1 := by
      rintro rfl
      rw [hsz, Lib.decDigits, dif_pos (by decide)]
      rfl
    rw [hc] at h hsz hlen
    have hb := (bt_head h).2.2
    rw [List.length_cons] at hsz hlen
    unfold numOf
    rw [if_neg (by omega), if_neg ?_]
    · have hd2 : digitsFrom s 0 0 = some (u : Int) := hd
      rw [hd2, Option.bind_some, cap_pos' h2]
    · rintro (h3 | h3 | ⟨h3, h4⟩)
      · omega
      · omega
      · have h5 : c.toNat = 48 := by omega
        have := hz (hc3 h5)
        omega
theorem parse_itoa {n : Int} (h1 : -lim63 ≤ n) (h2 : n < lim63) : Lib.parseIntB 64 (Lib.itoa n) = .ok n := by
  unfold lim63 at h1 h2
  have e63 : 2 ^ (64 - 1) = 9223372036854775808 := by decide
  have e64 : 2 ^ 64 - 1 = 18446744073709551615 := by decide
  rcases Int.lt_or_le n 0 with hn | hn
  · obtain ⟨u, rfl⟩ : ∃ u : Nat, n = -(u : Int) := ⟨n.natAbs, by omega⟩
    have hu : 1 ≤ u := by omega
    rw [Lib.itoa_neg u hu, Lib.parseIntB_minus]
    unfold Lib.parseUintB
    rw [if_neg (decDigits_ne u), e64, parseM_dv _ (Nat.le_refl _) _ _ u (dv_decDigits u) (by omega), e63]
    simp only [Lib.signedC]
    rw [if_neg (by omega)]
  · obtain ⟨u, rfl⟩ : ∃ u : Nat, n = (u : Int) := ⟨n.toNat, by omega⟩
    obtain ⟨c, r, hc, hc1, hc2, hc3⟩ := decDigits_head u
    rw [Lib.itoa_nonneg u, hc, Lib.parseIntB_plain 64 c r (by omega) (by omega), ← hc]
    unfold Lib.parseUintB
    rw [if_neg (decDigits_ne u), e64, parseM_dv _ (Nat.le_refl _) _ _ u (dv_decDigits u) (by omega), e63]
    simp only [Lib.signlessC]
    rw [if_neg (by omega)]
theorem parse_range {l : List UInt8} {v : Int} (h : Lib.parseIntB 64 l = .ok v) : -lim63 ≤ v ∧ v < lim63 := by
  have := Lib.parseIntB_bounds h
  have e63 : 2 ^ (64 - 1) = 9223372036854775808 := by decide
  rw [e63] at this
  exact this
end Go.Proofs.YtkpholfdjgdjnaaGreatDoor
