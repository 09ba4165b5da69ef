/- Texts of the claim, joined: Z0 Z3. -/
import Derived.Test.YtkpholfdjgdjnaaGreatDoorCards
import Derived.Test.YtkpholfdjgdjnaaGreatDoorM06
import Derived.ProofKit
import Derived.LaidHandle
import Derived.Stop.Joined
import Derived.Stop.LaidErr
import Derived.Lib.LaidTab
import Derived.Test.YtkpholfdjgdjnaaGreatDoorM25
import Derived.Deep.Slices
import Derived.Deep.Fields
import Derived.Lib.SmallJoins
import Derived.Carry
import Derived.ChangeSame
namespace Go.Proofs.YtkpholfdjgdjnaaGreatDoor
open Go Go.RowKit
theorem Tryz.own : ownKnob Tryz.prog.godebug = none := by kernel_rfl
theorem Tryz.gPow : Tryz.prog.globalNamed "internal/strconv.uint64pow10" = some 1 := by kernel_rfl
theorem Tryz.gPowType : (Tryz.prog.globals[1]?).map (·.type) = some 288 := by kernel_rfl
theorem Tryz.gSyn : Tryz.prog.globalNamed "strconv.ErrSyntax" = some 2 := by kernel_rfl
theorem Tryz.gSynType : (Tryz.prog.globals[2]?).map (·.type) = some 132 := by kernel_rfl
theorem Tryz.gRng : Tryz.prog.globalNamed "strconv.ErrRange" = some 3 := by kernel_rfl
theorem Tryz.gRngType : (Tryz.prog.globals[3]?).map (·.type) = some 132 := by kernel_rfl
theorem Tryz.cells309 : Tryz.prog.cellsOf 309 = 1 := by kernel_rfl
theorem Tryz.cells9 : Tryz.prog.cellsOf 9 = 1 := by kernel_rfl
theorem Tryz.cells61 : Tryz.prog.cellsOf 61 = 1 := by kernel_rfl
theorem Tryz.cells288 : Tryz.prog.cellsOf 288 = 20 := by kernel_rfl
theorem Tryz.star : "*" ++ "errors.errorString" = "*errors.errorString" := by decide
theorem Tryz.row307 (u : TypeId) (h : Tryz.prog.typeName? 3 u = some "*errors.errorString") : u = 307 :=
  typeName_ptr_named (nm := "errors.errorString") (by rw [Tryz.star]; kernel_rfl) (by kernel_rfl) (by decide) u (by rw [Tryz.star]; exact h)
def laid5 : List (String × DataW Unit) := [("math/bits.deBruijn32tab", Rows.laid_math_bits_deBruijn32tab), ("math/bits.deBruijn64tab", Rows.laid_math_bits_deBruijn64tab), ("internal/strconv.uint64pow10", Rows.laid_internal_strconv_uint64pow10), ("strconv.ErrRange", Rows.laid_strconv_ErrRange), ("strconv.ErrSyntax", Rows.laid_strconv_ErrSyntax)]
theorem env_of_laid {W : World} (h : laidMet Tryz.prog laid5 W) : Env W := by
  have hp : laidMet Tryz.prog (("internal/strconv.uint64pow10", Lib.tabData .u64 Lib.pow10Tab) :: [("strconv.ErrRange", Rows.laid_strconv_ErrRange), ("strconv.ErrSyntax", Rows.laid_strconv_ErrSyntax)]) W := h.tail.tail
  refine ⟨Lib.tabIs_of_head Tryz.gPow Tryz.gPowType Tryz.underlying288 Tryz.underlying61 Tryz.cells61 Tryz.cells288 hp, ?_, ?_⟩
  · obtain ⟨a0, s0, hv0, -, -, -⟩ := laid_sentinel h.tail.tail.tail.tail Tryz.gSyn Tryz.gSynType Tryz.underlying132 Tryz.row307 Tryz.underlying307 Tryz.underlying309 rfl rfl Tryz.underlying9 Tryz.cells309 Tryz.cells9
    exact ⟨_, _, hv0⟩
  · obtain ⟨a0, s0, hv0, -, -, -⟩ := laid_sentinel h.tail.tail.tail Tryz.gRng Tryz.gRngType Tryz.underlying132 Tryz.row307 Tryz.underlying307 Tryz.underlying309 rfl rfl Tryz.underlying9 Tryz.cells309 Tryz.cells9
    exact ⟨_, _, hv0⟩
noncomputable def low : Nat := (World.holding Tryz.prog default ⟨#[], #[], []⟩).heap.size
noncomputable def laidWorld (os : Os) : World :=
  let w0 := World.holding Tryz.prog os ⟨#[.cells #[.string ⟨#[105, 110, 118, 97, 108, 105, 100, 32, 115, 121, 110, 116, 97, 120]⟩] 309, .cells #[.string ⟨#[118, 97, 108, 117, 101, 32, 111, 117, 116, 32, 111, 102, 32, 114, 97, 110, 103, 101]⟩] 309], #[], []⟩
  let put (h : Array Obj) (g : Nat) (cs : Array Value) : Array Obj := h.modify g fun
    | .cells _ t frozen => .cells cs t frozen
    | o => o
  let h1 := put w0.heap 2 #[.iface 307 (.pointer (some ⟨low, 0, none⟩))]
  let h2 := put h1 3 #[.iface 307 (.pointer (some ⟨low + 1, 0, none⟩))]
  let h3 := put h2 1 #[.int .u64 1, .int .u64 10, .int .u64 100, .int .u64 1000, .int .u64 10000, .int .u64 100000, .int .u64 1000000, .int .u64 10000000, .int .u64 100000000, .int .u64 1000000000, .int .u64 10000000000, .int .u64 100000000000, .int .u64 1000000000000, .int .u64 10000000000000, .int .u64 100000000000000, .int .u64 1000000000000000, .int .u64 10000000000000000, .int .u64 100000000000000000, .int .u64 1000000000000000000, .int .u64 10000000000000000000]
  let h4 := put h3 4 #[.int .u8 0, .int .u8 1, .int .u8 28, .int .u8 2, .int .u8 29, .int .u8 14, .int .u8 24, .int .u8 3, .int .u8 30, .int .u8 22, .int .u8 20, .int .u8 15, .int .u8 25, .int .u8 17, .int .u8 4, .int .u8 8, .int .u8 31, .int .u8 27, .int .u8 13, .int .u8 23, .int .u8 21, .int .u8 19, .int .u8 16, .int .u8 7, .int .u8 26, .int .u8 12, .int .u8 18, .int .u8 6, .int .u8 11, .int .u8 5, .int .u8 10, .int .u8 9]
  let h5 := put h4 5 #[.int .u8 0, .int .u8 1, .int .u8 56, .int .u8 2, .int .u8 57, .int .u8 49, .int .u8 28, .int .u8 3, .int .u8 61, .int .u8 58, .int .u8 42, .int .u8 50, .int .u8 38, .int .u8 29, .int .u8 17, .int .u8 4, .int .u8 62, .int .u8 47, .int .u8 59, .int .u8 36, .int .u8 45, .int .u8 43, .int .u8 51, .int .u8 22, .int .u8 53, .int .u8 39, .int .u8 33, .int .u8 30, .int .u8 24, .int .u8 18, .int .u8 12, .int .u8 5, .int .u8 63, .int .u8 55, .int .u8 48, .int .u8 27, .int .u8 60, .int .u8 41, .int .u8 37, .int .u8 16, .int .u8 46, .int .u8 35, .int .u8 44, .int .u8 21, .int .u8 52, .int .u8 32, .int .u8 23, .int .u8 11, .int .u8 54, .int .u8 26, .int .u8 40, .int .u8 15, .int .u8 34, .int .u8 20, .int .u8 31, .int .u8 10, .int .u8 25, .int .u8 14, .int .u8 19, .int .u8 9, .int .u8 13, .int .u8 8, .int .u8 7, .int .u8 6]
  { w0 with heap := h5 }
set_option maxRecDepth 1000000 in
theorem laidWorld_met (os : Os) (args : Array Value) : laidMet Tryz.prog laid5 ((laidWorld os).forCall (fun _ _ => 0) ⟨#[], args, []⟩).memory :=
  laidMet_of_run' 8 (by kernel_rfl) (by kernel_rfl)
end Go.Proofs.YtkpholfdjgdjnaaGreatDoor
namespace Go.Proofs.YtkpholfdjgdjnaaGreatDoor
open Go Go.RowKit Go.Proofs Go.ChangeShapes Go.WideShapes
theorem spot_none {w : World} {a : Addr} {v : Value} (h : w.cell? a = some v) : a.spot = none := by
  unfold World.cell? at h
  split at h
  · split at h
    · cases h
    · rename_i h1
      simpa using h1
  · cases h
theorem lit_i64 {n : Int} (h : (Lit.int .i64 n).wf = true) : -lim63 ≤ n ∧ n < lim63 := by
  have h1 : IntKind.i64.min = -9223372036854775808 := rfl
  have h2 : IntKind.i64.max = 9223372036854775807 := rfl
  unfold lim63
  simp [Lit.wf] at h
  omega
def NmOk (s : ByteArray) : Prop := s.size ≤ maxLen
theorem NmOk.le {s : ByteArray} (h : NmOk s) : s.size ≤ 9223372036854775807 := h
section
variable {H : Type} {enc : TypeId × Value → H} {W : World} {base : Nat} {sp : Nat → Bool} {held : Bool}
theorem read_row {α : Type} [Inhabited α] (en : α → List Value) (sz : Nat) (hen : ∀ a, (en a).length = sz) (hsz : 0 < sz) (ok : α → Prop) {t e : TypeId} (ht : Tryz.prog.underlying t = some (.slice e)) (hC : Tryz.prog.cellsOf e = sz)
    (hone : ∀ n cs y, DataW.trod enc Tryz.prog W base sp held n e cs = some y → ∃ a : α, cs = en a ∧ ok a) {fuel : Nat} {v : Value} {x : DataW H × List MemPlace} (h : DataW.trod enc Tryz.prog W base sp held fuel t [v] = some x) :
    ∃ l : List α, Row W v l.length (l.flatMap en) ∧ ∀ a ∈ l, ok a := by
  rcases Go.Deep.open_slice ht h with ⟨h0, _⟩ | ⟨a, len, cap, m, n, D, Pl, hcs, hb, hl, hm, hmm, hx, hi⟩
  · injection h0 with h0
    subst h0
    exact ⟨[], ⟨none, 0, rfl, by simp, fun hne => absurd rfl hne⟩, by simp⟩
  · injection hcs with hcs
    subst hcs
    have hlm : len ≤ m := by rw [hmm]; split <;> omega
    obtain ⟨V, hV⟩ := Go.Deep.choose_lt (α := α) (n := len) (p := fun i x => W.cells? base (a.add (i * Tryz.prog.cellsOf e)) (Tryz.prog.cellsOf e) = some (en x) ∧ ok x) (fun i hlt => by
      obtain ⟨cs', h1, h2⟩ := hi i (by omega)
      obtain ⟨x, rfl, hok⟩ := hone _ _ _ h2
      exact ⟨x, h1, hok⟩)
    rw [hC] at hV
    have hL : ((List.range len).map V).length = len := by simp
    refine ⟨(List.range len).map V, ⟨some a, cap, by rw [hL], by rw [hL]; unfold maxLen at hm; omega, fun hne => ?_⟩, ?_⟩
    · have hlen : 0 < len := by
        rcases Nat.eq_zero_or_pos len with h | h
        · subst h
          exact absurd rfl hne
        · exact h
      have cellat : ∀ k r, k < len → r < sz → W.cell? (a.add (k * sz + r)) = (en (V k))[r]? := by
        intro k r hk hr
        obtain ⟨_, hcl, hat⟩ := World.cells?_some (hV k hk).1
        have := hat r hr
        rwa [Go.Deep.add_add] at this
      have h00 := cellat 0 0 hlen hsz
      rw [List.getElem?_eq_getElem (by rw [hen]; exact hsz), Nat.zero_mul, Nat.zero_add] at h00
      have hsp := spot_none h00
      obtain ⟨b, o, s⟩ := a
      have hs : s = none := by
        unfold Addr.add at hsp
        split at hsp <;> simp_all
      subst hs
      refine ⟨b, o, rfl, fun j hj => ?_⟩
      rw [flat_len en sz hen, hL] at hj
      have hk : j / sz < len := Nat.div_lt_of_lt_mul (by rw [Nat.mul_comm]; exact hj)
      have hr : j % sz < sz := Nat.mod_lt _ hsz
      have h1 := cellat (j / sz) (j % sz) hk hr
      have hj2 : j / sz * sz + j % sz = j := by rw [Nat.mul_comm]; exact Nat.div_add_mod j sz
      rw [hj2, add_at] at h1
      have hlk : ((List.range len).map V)[j / sz]? = some (V (j / sz)) := by
        rw [List.getElem?_map, List.getElem?_range hk]
        rfl
      have h2 := flat_get en sz hen ((List.range len).map V) (j / sz) (j % sz) (V (j / sz)) hlk hr
      rw [hj2] at h2
      rw [h1, h2, List.getElem?_eq_getElem (by rw [hen]; exact hr)]
      rfl
    · intro x hx
      obtain ⟨i, hi2, rfl⟩ := List.mem_map.1 hx
      exact (hV i (List.mem_range.1 hi2)).2
theorem Tryz.cells57 : Tryz.prog.cellsOf 57 = 2 := by kernel_rfl
theorem Tryz.cells59 : Tryz.prog.cellsOf 59 = 4 := by kernel_rfl
theorem Tryz.cells3 : Tryz.prog.cellsOf 3 = 1 := by kernel_rfl
theorem Tryz.cells2 : Tryz.prog.cellsOf 2 = 1 := by kernel_rfl
theorem Tryz.cells25 : Tryz.prog.cellsOf 25 = 4 := by kernel_rfl
instance : Inhabited ColI := ⟨⟨0, ⟨#[]⟩⟩⟩
instance : Inhabited CondI := ⟨⟨default, 0, 0⟩⟩
set_option maxRecDepth 100000 in
theorem read_col {n : Nat} {cs : List Value} {y : DataW H × List MemPlace} (h : DataW.trod enc Tryz.prog W base sp held n 57 cs = some y) : ∃ c : ColI, cs = colIV c ∧ NmOk c.name := by
  obtain ⟨xs, n', _, _, hlen, hxl, hf⟩ := DataW.trod_struct Tryz.underlying57 h
  rw [Tryz.cells57] at hlen
  match cs, hlen with
  | [c0, c1], _ =>
    have f0 : DataW.trod enc Tryz.prog W base sp held n' 3 (([c0, c1].drop 0).take (Tryz.prog.cellsOf 3)) = xs[0]? := hf 0 _ rfl
    have f1 : DataW.trod enc Tryz.prog W base sp held n' 9 (([c0, c1].drop 1).take (Tryz.prog.cellsOf 9)) = xs[1]? := hf 1 _ rfl
    have hx2 : xs.length = 2 := hxl
    rw [Tryz.cells3, List.getElem?_eq_getElem (by omega)] at f0
    rw [Tryz.cells9, List.getElem?_eq_getElem (by omega)] at f1
    simp only [List.drop_zero, List.take_succ_cons, List.take_zero, List.drop_succ_cons] at f0 f1
    obtain ⟨o, h0, _, _⟩ := DataW.trod_int Tryz.underlying3 f0
    obtain ⟨s, h1, _, hs⟩ := DataW.trod_string Tryz.underlying9 f1
    injection h0 with h0
    injection h1 with h1
    subst h0 h1
    exact ⟨⟨o, s⟩, rfl, hs⟩
set_option maxRecDepth 100000 in
theorem read_cond {n : Nat} {cs : List Value} {y : DataW H × List MemPlace} (h : DataW.trod enc Tryz.prog W base sp held n 59 cs = some y) : ∃ c : CondI, cs = condIV c ∧ NmOk c.col.name ∧ -lim63 ≤ c.num ∧ c.num < lim63 := by
  obtain ⟨xs, n', _, _, hlen, hxl, hf⟩ := DataW.trod_struct Tryz.underlying59 h
  rw [Tryz.cells59] at hlen
  match cs, hlen with
  | [c0, c1, c2, c3], _ =>
    have f0 : DataW.trod enc Tryz.prog W base sp held n' 57 (([c0, c1, c2, c3].drop 0).take (Tryz.prog.cellsOf 57)) = xs[0]? := hf 0 _ rfl
    have f1 : DataW.trod enc Tryz.prog W base sp held n' 3 (([c0, c1, c2, c3].drop 2).take (Tryz.prog.cellsOf 3)) = xs[1]? := hf 1 _ rfl
    have f2 : DataW.trod enc Tryz.prog W base sp held n' 2 (([c0, c1, c2, c3].drop 3).take (Tryz.prog.cellsOf 2)) = xs[2]? := hf 2 _ rfl
    have hx2 : xs.length = 3 := hxl
    rw [Tryz.cells57, List.getElem?_eq_getElem (by omega)] at f0
    rw [Tryz.cells3, List.getElem?_eq_getElem (by omega)] at f1
    rw [Tryz.cells2, List.getElem?_eq_getElem (by omega)] at f2
    simp only [List.drop_zero, List.take_succ_cons, List.take_zero, List.drop_succ_cons] at f0 f1 f2
    obtain ⟨c, hc, hs⟩ := read_col f0
    obtain ⟨o, h1, _, _⟩ := DataW.trod_int Tryz.underlying3 f1
    obtain ⟨z, h2, _, hz⟩ := DataW.trod_int Tryz.underlying2 f2
    unfold colIV at hc
    injection hc with hc0 hc1
    injection hc1 with hc1
    injection h1 with h1
    injection h2 with h2
    subst hc0 hc1 h1 h2
    exact ⟨⟨c, o, z⟩, rfl, hs, lit_i64 hz⟩
set_option maxRecDepth 100000 in
theorem read_query {r : Reach} {b0 : Nat} {v : Value} {d : DataW H} {p : List MemPlace} (hv : Value.okWide Tryz.prog W r b0 25 v) (h : DataW.Trod enc Tryz.prog W base sp held 25 v d p) :
    ∃ vC vW q, v = qV vC vW q ∧ QAt W vC vW q ∧ NamesOk q := by
  obtain ⟨v0, v1, v2, v3, y0, y1, y2, y3, n, rfl, _, _, h0, h1, h2, h3⟩ := Go.Joins.open_agg4 Tryz.underlying25 (by kernel_rfl) Tryz.cells25 hv h
  obtain ⟨lc, hrC, hokC⟩ := read_row colIV 2 (fun _ => rfl) (by omega) (fun c => NmOk c.name) Tryz.underlying22 Tryz.cells57 (fun _ _ _ h => read_col h) h0
  obtain ⟨lw, hrW, hokW⟩ := read_row condIV 4 (fun _ => rfl) (by omega) (fun c => NmOk c.col.name ∧ -lim63 ≤ c.num ∧ c.num < lim63) Tryz.underlying23 Tryz.cells59 (fun _ _ _ h => read_cond h) h1
  obtain ⟨s, e2, _, _⟩ := DataW.trod_int Tryz.underlying3 h2
  obtain ⟨l, e3, _, _⟩ := DataW.trod_int Tryz.underlying3 h3
  injection e2 with e2
  injection e3 with e3
  subst e2 e3
  exact ⟨v0, v1, ⟨lc, lw, s, l⟩, rfl, ⟨hrC, hrW, fun c hc => (hokW c hc).2⟩, ⟨fun c hc => (hokC c hc).le, fun c hc => (hokW c hc).1.le⟩⟩
end
theorem Tryz.laidOut : laidOutB Tryz.prog = true := by kernel_rfl
theorem Tryz.size25 : 25 < Tryz.prog.types.size := of_decide_eq_true (by kernel_rfl)
end Go.Proofs.YtkpholfdjgdjnaaGreatDoor
