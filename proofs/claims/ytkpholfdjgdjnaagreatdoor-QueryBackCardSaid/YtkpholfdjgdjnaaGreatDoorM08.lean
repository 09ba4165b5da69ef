/- Texts of the claim, joined: S7 S8 S9 SA. -/
import Derived.Test.YtkpholfdjgdjnaaGreatDoorM07
namespace Go.Proofs.YtkpholfdjgdjnaaGreatDoor
open Go Go.RowKit Go.Proofs
theorem PR.grown {w w' : World} {r a : Nat} {L : List Tok} {size : Nat} {row : Option Nat} (h : PR w r a L size) (hg : w.grownBy w' row) (hrow : ∀ k, row = some k → r < k) : PR w' r a L size := by
  have hlt := h.ne
  obtain ⟨S, hS, e⟩ : ∃ S : List Nat, (∀ x ∈ S, r < x) ∧ Ext S w w' := by
    cases row with
    | none => exact ⟨[], by simp, (Ext.refl [] w).grown hg (by simp)⟩
    | some k => exact ⟨[k], by simpa using hrow k rfl, (Ext.refl [k] w).grown hg (by intro j hj; injection hj with hj; simp [hj])⟩
  have hrS : r ∉ S := fun hx => Nat.lt_irrefl _ (hS _ hx)
  have haS : a ∉ S := fun hx => by have := hS _ hx; omega
  obtain ⟨A, c, hA⟩ := h.all
  obtain ⟨w0, h1, h2, h3, h4⟩ := h.base
  refine ⟨h.blk.ext e hrS, ⟨A, c, hA.blk.ext e haS, fun hne => ?_, hA.cap, hA.small, hA.lt⟩, h.ne, h.small, h.toks, w0, h1, h2.step e (fun x hx => .inr (by have := hS x hx; omega)), h3, h4⟩
  obtain ⟨b, o, hb, hb2, hc⟩ := hA.row hne
  exact ⟨b, o, hb, hb2, fun j hj => e.keeps (hc j hj) (fun hx => by have := hS _ hx; simp at this; omega)⟩
def PRowPost {α : Type} (e sz : Nat) (enc : List α → List Value) (res : Res (List α)) (w : World) (r a size : Nat) (x : Ending) (w' : World) : Prop :=
  Ext [r, a] w w' ∧ match res with
    | .ok (l, L) => ∃ v, x = .returned v ∧ w'.ownsRow w.heap.size e sz v l.length (enc l) ∧ PR w' r a L size
    | .error (p, c) => x = thrown p c
structure PRowRel {α : Type} (e sz : Nat) (enc : List α → List Value) (one : List Tok → Res α) (s : ByteArray) (res : Res (List α)) (w : World) (r a size : Nat) (g : Nat) (v : Value) (l : List α) (L : List Tok) (wr : World) : Prop where
  row : wr.ownsRow w.heap.size e sz v l.length (enc l)
  ext : Ext [r, a] w wr
  pr : PR wr r a L size
  len : 1 ≤ l.length ∧ l.length ≤ 16
  res : res = pMore size one s (16 - l.length) l L
  g : L.length < g
set_option maxRecDepth 100000 in
set_option maxHeartbeats 1000000 in
theorem pcols_calls (w : World) (r a : Nat) (L : List Tok) (size : Nat) (s : ByteArray) (h : PR w r a L size) :
    Calls Tryz.prog 70 #[.pointer (some ⟨r, 0, none⟩), .string s, .func (.func 71) #[.pointer (some ⟨r, 0, none⟩)] #[]] w (PRowPost 57 2 colsV (pRow size (pCol size) s L) w r a size) := by
  obtain ⟨i0, hi, hz0, hz1, hz2⟩ := info_parts Tryz.info57
  have hh := Lib.hid h
  have hr := h.frozen1
  have hra : ∀ x ∈ [r, a], x < w.heap.size := by have := h.alt; simp; omega
  clear h
  rcases hcol : pCol size L with ⟨p, e0⟩ | ⟨c, L1⟩
  · have HP : Hid (pRow size (pCol size) s L = .error (p, e0)) := by unfold Hid pRow; rw [hcol]
    have Hc := Lib.hid hcol
    clear hcol
    go_enter Tryz.func70, Tryz.ntmps70
    go_wp2_with (go_at_call 71; refine (pcol_err _ r a L size hh.out p e0 Hc.out).mono ?_; rintro e w1 ⟨rfl, E1⟩; unfold thrown)
    refine ⟨rfl, E1, ?_⟩
    rw [HP.out]
    rfl
  · have HP : Hid (pRow size (pCol size) s L = pMore size (pCol size) s 15 [c] L1) := by unfold Hid pRow; rw [hcol]
    have Hc := Lib.hid hcol
    clear hcol
    go_enter Tryz.func70, Tryz.ntmps70
    go_wp2_with (go_at_call 71; refine (pcol_ok _ r a L size hh.out c L1 Hc.out).mono ?_; rintro e w1 ⟨rfl, E1, P1⟩)
    go_loopg [7] (L1.length + 1) (fun g v wr => ∃ l L', PRowRel 57 2 colsV (pCol size) s (pRow size (pCol size) s L) w r a size g v l L' wr)
    case atStart =>
      exact ⟨[c], L1, ownsRow_lit w1 w.heap.size 57 2 1 (colV c) E1.size (by decide) rfl, E1.alloc _, P1.keep ((Ext.refl [] w1).alloc _), by simp, by rw [HP.out]; rfl, by omega⟩
    case round =>
      obtain ⟨l, L', hR⟩ := hrel
      have hR0 := hR.row
      have hl1 := hR.len.1
      have hl2 := hR.len.2
      have HR := Lib.hid hR
      rcases hp : pHas s L' with _ | _
      · have Hp := Lib.hid hp
        clear hp hR hR0
        go_wp2_with (go_at_call 72; refine (has_calls wr r a L' size s HR.out.pr false Hp.out).mono ?_; rintro e w2 ⟨rfl, E2, P2⟩)
        go_ret
        refine ⟨HR.out.ext.trans E2, ?_⟩
        rw [HR.out.res, pMore_no Hp.out]
        exact ⟨_, rfl, ownsRow_ext HR.out.row E2 hra, P2⟩
      · have Hp := Lib.hid hp
        obtain ⟨g', cap', rfl, _, _⟩ := hR0.form (by omega)
        clear hp hR
        by_cases hfull : l.length = 16
        · have hl16 : ((l.length : Int) == 16) = true := by simp; omega
          have Hf := Lib.hid hfull
          clear hfull
          go_wp2_with (first
            | (go_at_call 72; refine (has_calls wr r a L' size s HR.out.pr true Hp.out).mono ?_; rintro e w2 ⟨rfl, E2, P2⟩; simp only [if_true] at P2)
            | (go_at_call 76; refine (throw_calls _ r a L'.tail size 30 P2).mono ?_; rintro e w3 ⟨rfl, rfl⟩; unfold thrown))
          refine ⟨rfl, HR.out.ext.trans E2, ?_⟩
          rw [HR.out.res, Hf.out, Nat.sub_self, pMore_full Hp.out]
          rfl
        · have hl16 : ((l.length : Int) == 16) = false := by simp; omega
          have Hf := Lib.hid hfull
          obtain ⟨n, hn⟩ : ∃ n, 16 - l.length = n + 1 := ⟨16 - l.length - 1, by omega⟩
          have Hn := Lib.hid hn
          have hL := Lib.hid (colsV_length l)
          clear hfull hn
          rcases hcol2 : pCol size L'.tail with ⟨p, e0⟩ | ⟨c2, L2⟩
          · have Hc2 := Lib.hid hcol2
            clear hcol2
            go_wp2_with (first
              | (go_at_call 72; refine (has_calls wr r a L' size s HR.out.pr true Hp.out).mono ?_; rintro e w2 ⟨rfl, E2, P2⟩; simp only [if_true] at P2)
              | (go_at_call 71; refine (pcol_err _ r a L'.tail size P2 p e0 Hc2.out).mono ?_; rintro e w3 ⟨rfl, E3⟩; unfold thrown))
            refine ⟨rfl, (HR.out.ext.trans E2).trans E3, ?_⟩
            rw [HR.out.res, Hn.out, pMore_bad Hp.out Hc2.out]
            rfl
          · have Hc2 := Lib.hid hcol2
            clear hcol2
            cases gk with
            | zero =>
              have := HR.out.g
              omega
            | succ g =>
            have hsz0 := HR.out.ext.size
            go_wp2_with (first
              | (go_at_call 72; refine (has_calls wr r a L' size s HR.out.pr true Hp.out).mono ?_; rintro e w2 ⟨rfl, E2, P2⟩; simp only [if_true] at P2)
              | (go_at_call 71; refine (pcol_ok _ r a L'.tail size P2 c2 L2 Hc2.out).mono ?_; rintro e w5 ⟨rfl, E3, P5⟩; have E5 := E2.trans E3; have row5 := ownsRow_ext hR0 E5 hra; have hsz5 := E5.size)
              | (at_builtin; refine wpList_append_own _ rfl _ _ 22 rfl w.heap.size 57 i0 _ 2 24 Tryz.underlying22 hi hz0 hz1 hz2 rfl (by decide) _ _ _ rfl (row5.alloc _) ⟨w5.heap.size, 0, none⟩ 1 1 [.int .i64 c2.op, .string c2.name] rfl rfl ?c1 ?c2 ?c3 ?c4 ?c5 ?_; (case c1 => exact cells_new _ _ _); (case c2 => simp [Value.oneCell']); (case c3 => unfold maxLen; omega); (case c4 => omega); (case c5 => simp; omega); intro v' w6 hown' hgrow _))
            go_roundg g
            case rel =>
              refine ⟨l ++ [c2], L2, ?_, ?_, ?_, ?_, ?_, ?_⟩
              · rw [colsV_snoc, List.length_append]
                exact hown'
              · exact ((HR.out.ext.trans E5).alloc _).grown hgrow (by intro b hb; exact .inr ((row5.lt b hb).1))
              · exact (P5.keep ((Ext.refl [] w5).alloc _)).grown hgrow (by intro b hb; have := (row5.lt b hb).1; omega)
              · have := Hf.out
                simp
                omega
              · rw [HR.out.res, Hn.out]
                have : 16 - (l ++ [c2]).length = n := by have := Hn.out; simp; omega
                rw [this, pMore_good Hp.out Hc2.out]
              · have := HR.out.g
                have h1 := pCol_shorter Hc2.out
                have h2 : L'.tail.length ≤ L'.length := by simp
                omega
            case measure => omega
end Go.Proofs.YtkpholfdjgdjnaaGreatDoor
namespace Go.Proofs.YtkpholfdjgdjnaaGreatDoor
open Go Go.RowKit Go.Proofs
theorem pcond_ok (w : World) (r a : Nat) (L : List Tok) (size : Nat) (h : PR w r a L size) (c : CondZ) (L1 : List Tok) (hc : pCond size L = .ok (c, L1)) :
    Calls Tryz.prog 74 #[.pointer (some ⟨r, 0, none⟩)] w fun x w' => x = .returned (.agg #[.int .i64 c.col.op, .string c.col.name, .int .i64 c.cmp, .int .i64 c.num]) ∧ Ext [r, a] w w' ∧ PR w' r a L1 size :=
  (pcond_calls w r a L size h).mono fun _ _ k => k.ok hc
theorem pcond_err (w : World) (r a : Nat) (L : List Tok) (size : Nat) (h : PR w r a L size) (p e : Nat) (hc : pCond size L = .error (p, e)) :
    Calls Tryz.prog 74 #[.pointer (some ⟨r, 0, none⟩)] w fun x w' => x = thrown p e ∧ Ext [r, a] w w' :=
  (pcond_calls w r a L size h).mono fun _ _ k => k.err hc
set_option maxRecDepth 100000 in
set_option maxHeartbeats 1000000 in
theorem pconds_calls (w : World) (r a : Nat) (L : List Tok) (size : Nat) (s : ByteArray) (h : PR w r a L size) :
    Calls Tryz.prog 73 #[.pointer (some ⟨r, 0, none⟩), .string s, .func (.func 74) #[.pointer (some ⟨r, 0, none⟩)] #[]] w (PRowPost 59 4 condsV (pRow size (pCond size) s L) w r a size) := by
  obtain ⟨i0, hi, hz0, hz1, hz2⟩ := info_parts Tryz.info59
  have hh := Lib.hid h
  have hr := h.frozen1
  have hra : ∀ x ∈ [r, a], x < w.heap.size := by have := h.alt; simp; omega
  clear h
  rcases hcol : pCond size L with ⟨p, e0⟩ | ⟨c, L1⟩
  · have HP : Hid (pRow size (pCond size) s L = .error (p, e0)) := by unfold Hid pRow; rw [hcol]
    have Hc := Lib.hid hcol
    clear hcol
    go_enter Tryz.func73, Tryz.ntmps73
    go_wp2_with (go_at_call 74; refine (pcond_err _ r a L size hh.out p e0 Hc.out).mono ?_; rintro e w1 ⟨rfl, E1⟩; unfold thrown)
    refine ⟨rfl, E1, ?_⟩
    rw [HP.out]
    rfl
  · have HP : Hid (pRow size (pCond size) s L = pMore size (pCond size) s 15 [c] L1) := by unfold Hid pRow; rw [hcol]
    have Hc := Lib.hid hcol
    clear hcol
    go_enter Tryz.func73, Tryz.ntmps73
    go_wp2_with (go_at_call 74; refine (pcond_ok _ r a L size hh.out c L1 Hc.out).mono ?_; rintro e w1 ⟨rfl, E1, P1⟩)
    go_loopg [7] (L1.length + 1) (fun g v wr => ∃ l L', PRowRel 59 4 condsV (pCond size) s (pRow size (pCond size) s L) w r a size g v l L' wr)
    case atStart =>
      exact ⟨[c], L1, ownsRow_lit w1 w.heap.size 59 4 1 (condV c) E1.size (by decide) rfl, E1.alloc _, P1.keep ((Ext.refl [] w1).alloc _), by simp, by rw [HP.out]; rfl, by omega⟩
    case round =>
      obtain ⟨l, L', hR⟩ := hrel
      have hR0 := hR.row
      have hl1 := hR.len.1
      have hl2 := hR.len.2
      have HR := Lib.hid hR
      rcases hp : pHas s L' with _ | _
      · have Hp := Lib.hid hp
        clear hp hR hR0
        go_wp2_with (go_at_call 72; refine (has_calls wr r a L' size s HR.out.pr false Hp.out).mono ?_; rintro e w2 ⟨rfl, E2, P2⟩)
        go_ret
        refine ⟨HR.out.ext.trans E2, ?_⟩
        rw [HR.out.res, pMore_no Hp.out]
        exact ⟨_, rfl, ownsRow_ext HR.out.row E2 hra, P2⟩
      · have Hp := Lib.hid hp
        obtain ⟨g', cap', rfl, _, _⟩ := hR0.form (by omega)
        clear hp hR
        by_cases hfull : l.length = 16
        · have hl16 : ((l.length : Int) == 16) = true := by simp; omega
          have Hf := Lib.hid hfull
          clear hfull
          go_wp2_with (first
            | (go_at_call 72; refine (has_calls wr r a L' size s HR.out.pr true Hp.out).mono ?_; rintro e w2 ⟨rfl, E2, P2⟩; simp only [if_true] at P2)
            | (go_at_call 76; refine (throw_calls _ r a L'.tail size 30 P2).mono ?_; rintro e w3 ⟨rfl, rfl⟩; unfold thrown))
          refine ⟨rfl, HR.out.ext.trans E2, ?_⟩
          rw [HR.out.res, Hf.out, Nat.sub_self, pMore_full Hp.out]
          rfl
        · have hl16 : ((l.length : Int) == 16) = false := by simp; omega
          have Hf := Lib.hid hfull
          obtain ⟨n, hn⟩ : ∃ n, 16 - l.length = n + 1 := ⟨16 - l.length - 1, by omega⟩
          have Hn := Lib.hid hn
          have hL := Lib.hid (condsV_length l)
          clear hfull hn
          rcases hcol2 : pCond size L'.tail with ⟨p, e0⟩ | ⟨c2, L2⟩
          · have Hc2 := Lib.hid hcol2
            clear hcol2
            go_wp2_with (first
              | (go_at_call 72; refine (has_calls wr r a L' size s HR.out.pr true Hp.out).mono ?_; rintro e w2 ⟨rfl, E2, P2⟩; simp only [if_true] at P2)
              | (go_at_call 74; refine (pcond_err _ r a L'.tail size P2 p e0 Hc2.out).mono ?_; rintro e w3 ⟨rfl, E3⟩; unfold thrown))
            refine ⟨rfl, (HR.out.ext.trans E2).trans E3, ?_⟩
            rw [HR.out.res, Hn.out, pMore_bad Hp.out Hc2.out]
            rfl
          · have Hc2 := Lib.hid hcol2
            clear hcol2
            cases gk with
            | zero =>
              have := HR.out.g
              omega
            | succ g =>
            have hsz0 := HR.out.ext.size
            go_wp2_with (first
              | (go_at_call 72; refine (has_calls wr r a L' size s HR.out.pr true Hp.out).mono ?_; rintro e w2 ⟨rfl, E2, P2⟩; simp only [if_true] at P2)
              | (go_at_call 74; refine (pcond_ok _ r a L'.tail size P2 c2 L2 Hc2.out).mono ?_; rintro e w5 ⟨rfl, E3, P5⟩; have E5 := E2.trans E3; have row5 := ownsRow_ext hR0 E5 hra; have hsz5 := E5.size)
              | (at_builtin; refine wpList_append_own _ rfl _ _ 23 rfl w.heap.size 59 i0 _ 4 40 Tryz.underlying23 hi hz0 hz1 hz2 rfl (by decide) _ _ _ rfl (row5.alloc _) ⟨w5.heap.size, 0, none⟩ 1 1 [.int .i64 c2.col.op, .string c2.col.name, .int .i64 c2.cmp, .int .i64 c2.num] rfl rfl ?c1 ?c2 ?c3 ?c4 ?c5 ?_; (case c1 => exact cells_new _ _ _); (case c2 => simp [Value.oneCell']); (case c3 => unfold maxLen; omega); (case c4 => omega); (case c5 => simp; omega); intro v' w6 hown' hgrow _))
            go_roundg g
            case rel =>
              refine ⟨l ++ [c2], L2, ?_, ?_, ?_, ?_, ?_, ?_⟩
              · rw [condsV_snoc, List.length_append]
                exact hown'
              · exact ((HR.out.ext.trans E5).alloc _).grown hgrow (by intro b hb; exact .inr ((row5.lt b hb).1))
              · exact (P5.keep ((Ext.refl [] w5).alloc _)).grown hgrow (by intro b hb; have := (row5.lt b hb).1; omega)
              · have := Hf.out
                simp
                omega
              · rw [HR.out.res, Hn.out]
                have : 16 - (l ++ [c2]).length = n := by have := Hn.out; simp; omega
                rw [this, pMore_good Hp.out Hc2.out]
              · have := HR.out.g
                have h1 := pCond_shorter Hc2.out
                have h2 : L'.tail.length ≤ L'.length := by simp
                omega
            case measure => omega
end Go.Proofs.YtkpholfdjgdjnaaGreatDoor
namespace Go.Proofs.YtkpholfdjgdjnaaGreatDoor
open Go Go.RowKit Go.Proofs
def PQueryPost (w : World) (r a : Nat) (L : List Tok) (size : Nat) (x : Ending) (w' : World) : Prop :=
  Ext [r, a] w w' ∧ match pQuery size L with
    | .ok q => ∃ vC vW, x = .returned (.agg #[vC, vW, .int .i64 q.srt, .int .i64 q.lim]) ∧
        w'.ownsRow w.heap.size 57 2 vC q.cols.length (colsV q.cols) ∧ w'.ownsRow w.heap.size 59 4 vW q.whr.length (condsV q.whr)
    | .error (p, c) => x = thrown p c
structure QSt (w : World) (r a size q : Nat) (res : Except (Nat × Nat) QZ) (M : List ColZ → List CondZ → Int → Int → List Tok → Prop) (vC vW : Value) (cols : List ColZ) (whr : List CondZ) (srt lim : Int) (L : List Tok) (W : World) : Prop where
  ext : Ext [r, a] w W
  s : Blk W w.heap.size [.slice none 0 0, .slice none 0 0, .int .i64 0, .int .i64 0] 25
  pr : PR W r a L size
  qb : Blk W q [vC, vW, .int .i64 srt, .int .i64 lim] 25
  rowC : W.ownsRow w.heap.size 57 2 vC cols.length (colsV cols)
  rowW : W.ownsRow w.heap.size 59 4 vW whr.length (condsV whr)
  neC : ∀ b, vC.ownBlock = some b → b ≠ q ∧ b ≠ w.heap.size
  neW : ∀ b, vW.ownBlock = some b → b ≠ q ∧ b ≠ w.heap.size
  lt : w.heap.size < q ∧ r < w.heap.size ∧ a < r
  cs : cols.length ≤ 9223372036854775807
  st : M cols whr srt lim L
def QRel (w : World) (r a size q : Nat) (res : Except (Nat × Nat) QZ) (M : List ColZ → List CondZ → Int → Int → List Tok → Prop) (W : World) : Prop :=
  ∃ vC vW cols whr srt lim L, QSt w r a size q res M vC vW cols whr srt lim L W
section
variable {w : World} {r a size q : Nat} {res : Except (Nat × Nat) QZ} {M M' : List ColZ → List CondZ → Int → Int → List Tok → Prop} {vC vW : Value} {cols : List ColZ} {whr : List CondZ} {srt lim : Int} {L L' : List Tok} {W W' : World}
theorem QSt.read (h : QSt w r a size q res M vC vW cols whr srt lim L W) (e : Ext [r, a] W W') (hR : PR W' r a L' size) (hM : M' cols whr srt lim L') : QSt w r a size q res M' vC vW cols whr srt lim L' W' := by
  have hlt := h.lt
  have hb : ∀ v n sz t xs, W.ownsRow w.heap.size t sz v n xs → W'.ownsRow w.heap.size t sz v n xs := fun v n sz t xs ho => ownsRow_ext ho e (by intro x hx; simp at hx; omega)
  exact ⟨h.ext.trans e, h.s.ext e (by simp; omega), hR, h.qb.ext e (by simp; omega), hb _ _ _ _ _ h.rowC, hb _ _ _ _ _ h.rowW, h.neC, h.neW, h.lt, h.cs, hM⟩
theorem QSt.store {vW' : Value} {whr' : List CondZ} {srt' lim' : Int} (i : Nat) (u : Value) (h : QSt w r a size q res M vC vW cols whr srt lim L W)
    (hq : [vC, vW, .int .i64 srt, .int .i64 lim].set i u = [vC, vW', .int .i64 srt', .int .i64 lim']) (hrow : W.ownsRow w.heap.size 59 4 vW' whr'.length (condsV whr')) (hne : ∀ b, vW'.ownBlock = some b → b ≠ q ∧ b ≠ w.heap.size) (hM : M' cols whr' srt' lim' L) :
    QSt w r a size q res M' vC vW' cols whr' srt' lim' L (W.setCell ⟨q, i, none⟩ u) := by
  have hlt := h.lt
  have e : Ext [q] W (W.setCell ⟨q, i, none⟩ u) := (Ext.refl [q] W).setCell _ (by simp) _
  refine ⟨h.ext.setCell _ (by simp; omega) _, h.s.ext e (by simp; omega), h.pr.set_new _ _ (by simp; omega), ?_, ownsRow_ext' h.rowC e (by intro b hb; have := h.neC b hb; simp; omega), ownsRow_ext' hrow e (by intro b hb; have := hne b hb; simp; omega), h.neC, hne, h.lt, h.cs, hM⟩
  rw [← hq]
  exact h.qb.set i u
end
theorem prow_ok {α : Type} {e sz : Nat} {enc : List α → List Value} {res : Res (List α)} {w : World} {r a size : Nat} {x : Ending} {w' : World} (h : PRowPost e sz enc res w r a size x w') {l : List α} {L : List Tok} (hr : res = .ok (l, L)) :
    ∃ v, x = .returned v ∧ Ext [r, a] w w' ∧ w'.ownsRow w.heap.size e sz v l.length (enc l) ∧ PR w' r a L size := by
  subst hr
  obtain ⟨h1, v, h2, h3, h4⟩ := h
  exact ⟨v, h2, h1, h3, h4⟩
theorem prow_err {α : Type} {e sz : Nat} {enc : List α → List Value} {res : Res (List α)} {w : World} {r a size : Nat} {x : Ending} {w' : World} (h : PRowPost e sz enc res w r a size x w') {p c : Nat} (hr : res = .error (p, c)) :
    x = thrown p c ∧ Ext [r, a] w w' := by
  subst hr
  exact ⟨h.2, h.1⟩
end Go.Proofs.YtkpholfdjgdjnaaGreatDoor
namespace Go.Proofs.YtkpholfdjgdjnaaGreatDoor
open Go Go.RowKit Go.Proofs
theorem qstart {w w1 W : World} {r a size : Nat} {A2 : Option Addr} {cap2 : Nat} {cols : List ColZ} {L L1 : List Tok}
    (hW : W = w1.alloc (Obj.cells #[.slice A2 cols.length cap2, .slice none 0 0, .int .i64 0, .int .i64 0] 25))
    (E1 : Ext [r, a] (w.alloc (Obj.cells #[Value.slice none 0 0, Value.slice none 0 0, Value.int IntKind.i64 0, Value.int IntKind.i64 0] 25)) w1)
    (rowC : w1.ownsRow (w.alloc (Obj.cells #[Value.slice none 0 0, Value.slice none 0 0, Value.int IntKind.i64 0, Value.int IntKind.i64 0] 25)).heap.size 57 2 (.slice A2 cols.length cap2) cols.length (colsV cols))
    (P1 : PR w1 r a L1 size) (hra : ∀ x ∈ [r, a], x < w.heap.size) (hr : r < w.heap.size) (har : a < r) (hp : pQuery size L = qWhere size cols L1) :
    QRel w r a size w1.heap.size (pQuery size L) (fun cols whr srt lim L' => whr = [] ∧ srt = 0 ∧ lim = 0 ∧ pQuery size L = qWhere size cols L') W := by
  have e : Ext [] w1 W := by rw [hW]; exact (Ext.refl [] w1).alloc _
  have hsz : w.heap.size + 1 ≤ w1.heap.size := by have := E1.size; simpa using this
  have rowC' : w1.ownsRow (w.heap.size + 1) 57 2 (.slice A2 cols.length cap2) cols.length (colsV cols) := by simpa using rowC
  refine ⟨.slice A2 cols.length cap2, .slice none 0 0, cols, [], 0, 0, L1, ((Ext.refl [r, a] w).alloc _).trans (E1.trans e.nil), ?_, P1.keep e, ?_, ownsRow_ext (ownsRow_base rowC' (by omega)) e (by simp), World.ownsRow_nil _ _ _ _, fun b hb => ?_, fun b hb => by simp [Value.ownBlock] at hb, ⟨by omega, hr, har⟩, ownsRow_len rowC, rfl, rfl, rfl, hp⟩
  · exact ((Blk.new w [.slice none 0 0, .slice none 0 0, .int .i64 0, .int .i64 0] 25).ext E1 (fun hx => Nat.lt_irrefl _ (hra _ hx))).ext e (by simp)
  · rw [hW]
    exact Blk.new w1 [.slice A2 cols.length cap2, .slice none 0 0, .int .i64 0, .int .i64 0] 25
  · have := rowC'.lt b hb
    omega
set_option maxRecDepth 100000 in
set_option maxHeartbeats 2000000 in
theorem pquery_calls (w : World) (r a : Nat) (L : List Tok) (size : Nat) (h : PR w r a L size) :
    Calls Tryz.prog 29 #[.pointer (some ⟨r, 0, none⟩)] w (PQueryPost w r a L size) := by
  have hh := Lib.hid h
  have hr := h.frozen1
  have har := h.ne
  have hra : ∀ x ∈ [r, a], x < w.heap.size := by have := h.alt; simp; omega
  clear h
  rcases hrow : pRow size (pCol size) sComma L with ⟨p, e0⟩ | ⟨cols, L1⟩
  · have HP : Hid (pQuery size L = .error (p, e0)) := by unfold Hid; rw [pQuery_eq, hrow]
    have Hc := Lib.hid hrow
    clear hrow
    go_enter Tryz.func29, Tryz.ntmps29
    go_wp2_with (go_at_call 70; refine (pcols_calls _ r a L size sComma (hh.out.keep ((Ext.refl [] w).alloc _))).mono ?_; intro e w1 hpost; obtain ⟨rfl, E1⟩ := prow_err hpost Hc.out; unfold thrown)
    refine ⟨rfl, ((Ext.refl [r, a] w).alloc _).trans E1, ?_⟩
    rw [HP.out]
    rfl
  · have HP : Hid (pQuery size L = qWhere size cols L1) := by unfold Hid; rw [pQuery_eq, hrow]
    have Hc := Lib.hid hrow
    clear hrow
    go_enter Tryz.func29, Tryz.ntmps29
    go_upto_if 10 with (first
      | (go_at_call 70; refine (pcols_calls _ r a L size sComma (hh.out.keep ((Ext.refl [] w).alloc _))).mono ?_; intro e w1 hpost; obtain ⟨vC, rfl, E1, rowC, P1⟩ := prow_ok hpost Hc.out; obtain ⟨A2, cap2, rfl⟩ := ownsRow_shape rowC)
      | (go_at_call 72; refine absC ?_; intro W hW; have hQ : QRel w r a size w1.heap.size (pQuery size L) (fun cols whr srt lim L' => whr = [] ∧ srt = 0 ∧ lim = 0 ∧ pQuery size L = qWhere size cols L') W := qstart hW E1 rowC P1 hra hr har HP.out; clear hW; obtain ⟨vC, vW, cols', whr, srt, lim, L', Q⟩ := hQ; refine (has_calls W r a L' size sWhere Q.pr _ rfl).mono ?_; rintro e W1 ⟨rfl, E2, P2⟩))
    clear E1 rowC P1 hpost HP Hc
    generalize w1.heap.size = q at *
    go_cut [] (fun wx => QRel w r a size q (pQuery size L) (fun cols whr srt lim L' => srt = 0 ∧ lim = 0 ∧ pQuery size L = qSort size cols whr L') wx)
    case first =>
      obtain ⟨hw0, hs0, hl0, hq⟩ := Q.st
      have Hq := Lib.hid hq
      have HQ := Lib.hid Q
      clear hq Q
      rcases hp : pHas sWhere L' with _ | _
      · have Hp := Lib.hid hp
        rw [hp] at P2
        simp only [Bool.false_eq_true, if_false] at P2
        clear hp
        go_wp2_with fail
        go_meet
        case rel =>
          refine ⟨vC, vW, cols', whr, srt, lim, L', QSt.read HQ.out E2 P2 ⟨hs0, hl0, ?_⟩⟩
          rw [Hq.out, hw0]
          unfold qWhere pWhere
          rw [Hp.out]
          rfl
      · have Hp := Lib.hid hp
        rw [hp] at P2
        simp only [if_true] at P2
        clear hp
        have hsz2 := E2.size
        have Q2 : QSt w r a size q (pQuery size L) (fun _ _ _ _ _ => True) vC vW cols' whr srt lim L'.tail W1 := QSt.read HQ.out E2 P2 trivial
        rcases hrow : pRow size (pCond size) sAnd L'.tail with ⟨p, e0⟩ | ⟨whr3, L3⟩
        · have Hr : Hid (pQuery size L = .error (p, e0)) := by
            unfold Hid
            rw [Hq.out]
            unfold qWhere pWhere
            rw [if_pos Hp.out, hrow]
          have Hrow := Lib.hid hrow
          clear hrow
          go_wp2_with (go_at_call 73; refine (pconds_calls _ r a L'.tail size sAnd P2).mono ?_; intro e w3 hpost; obtain ⟨rfl, E3⟩ := prow_err hpost Hrow.out; unfold thrown)
          refine ⟨rfl, (Q2.ext.trans E3), ?_⟩
          rw [Hr.out]
          rfl
        · have Hrow := Lib.hid hrow
          have Hr : Hid (pQuery size L = qSort size cols' whr3 L3) := by
            unfold Hid
            rw [Hq.out]
            unfold qWhere pWhere
            rw [if_pos Hp.out, hrow]
          clear hrow
          have hqs := Q2.qb.lt
          have hext := Q2.ext.size
          go_wp2_with (go_at_call 73; refine (pconds_calls _ r a L'.tail size sAnd P2).mono ?_; intro e w3 hpost; obtain ⟨v3, rfl, E3, row3, P3⟩ := prow_ok hpost Hrow.out; obtain ⟨A3, cap3, rfl⟩ := ownsRow_shape row3; have Q3 : QSt w r a size q (pQuery size L) (fun _ _ _ _ _ => True) vC vW cols' whr srt lim L3 w3 := QSt.read Q2 E3 P3 trivial; have qc := Q3.qb.cell 1; have qf := Q3.qb.frozen 1; simp only [List.getElem?_cons_zero, List.getElem?_cons_succ] at qc)
          go_meet
          case rel =>
            refine ⟨vC, _, cols', whr3, srt, lim, L3, QSt.store 1 _ Q3 rfl (ownsRow_base row3 hext) (fun b hb => ?_) ⟨hs0, hl0, Hr.out⟩⟩
            have hq1 := Q2.lt.1
            have := row3.lt b hb
            omega
    case rest =>
      clear Q P2 E2
      obtain ⟨vC, vW, cols', whr, srt, lim, L', Q⟩ := hcut
      go_upto_if 17 with (go_at_call 72; refine (has_calls _ r a L' size sSort Q.pr _ rfl).mono ?_; rintro e W1 ⟨rfl, E2, P2⟩)
      go_cut [] (fun wx => QRel w r a size q (pQuery size L) (fun cols whr srt lim L' => lim = 0 ∧ pQuery size L = qLim size cols whr srt L') wx)
      case first =>
        obtain ⟨hs0, hl0, hq⟩ := Q.st
        have Hq := Lib.hid hq
        have HQ := Lib.hid Q
        clear hq Q
        rcases hp : pHas sSort L' with _ | _
        · have Hp := Lib.hid hp
          rw [hp] at P2
          simp only [Bool.false_eq_true, if_false] at P2
          clear hp
          go_wp2_with fail
          go_meet
          case rel =>
            refine ⟨vC, vW, cols', whr, srt, lim, L', QSt.read HQ.out E2 P2 ⟨hl0, ?_⟩⟩
            rw [Hq.out, hs0]
            unfold qSort pSort
            rw [Hp.out]
            rfl
        · have Hp := Lib.hid hp
          rw [hp] at P2
          simp only [if_true] at P2
          clear hp
          have Q2 : QSt w r a size q (pQuery size L) (fun _ _ _ _ _ => True) vC vW cols' whr srt lim L'.tail W1 := QSt.read HQ.out E2 P2 trivial
          obtain ⟨A2', cap2', rfl⟩ := ownsRow_shape Q2.rowC
          have qc := Q2.qb.cell 0
          simp only [List.getElem?_cons_zero, List.getElem?_cons_succ] at qc
          rcases hnum : pNum size 1 cols'.length L'.tail with ⟨p, e0⟩ | ⟨n, L3⟩
          · have Hr : Hid (pQuery size L = .error (p, e0)) := by
              unfold Hid
              rw [Hq.out]
              unfold qSort pSort
              rw [if_pos Hp.out, hnum]
            have Hn := Lib.hid hnum
            clear hnum
            go_wp2_with (go_at_call 75; refine (pnum_err _ r a L'.tail size 1 cols'.length P2 p e0 Hn.out).mono ?_; rintro e w3 ⟨rfl, E3⟩; unfold thrown)
            refine ⟨rfl, (Q2.ext.trans E3), ?_⟩
            rw [Hr.out]
            rfl
          · have hn := pNum_range hnum
            have hcs := Q2.cs
            have Hn := Lib.hid hnum
            have hrng := Lib.hid (show 1 ≤ n ∧ n ≤ 9223372036854775807 from ⟨hn.1, by omega⟩)
            have Hr : Hid (pQuery size L = if pHas sDown L3 then qLim size cols' whr (-n) L3.tail else qLim size cols' whr n L3) := by
              unfold Hid
              rw [Hq.out]
              unfold qSort pSort
              rw [if_pos Hp.out, hnum]
              rcases hd : pHas sDown L3 with _ | _ <;> simp only [hd, if_true, Bool.false_eq_true, if_false]
            clear hnum hn hcs
            go_upto_if 25 with (first
              | (go_at_call 75; refine (pnum_ok _ r a L'.tail size 1 cols'.length P2 n L3 Hn.out).mono ?_; rintro e w3 ⟨rfl, E3, P3⟩; have Q3 : QSt w r a size q (pQuery size L) (fun _ _ _ _ _ => True) (.slice A2' cols'.length cap2') vW cols' whr srt lim L3 w3 := QSt.read Q2 E3 P3 trivial; have qc3 := Q3.qb.cell 2; have qf3 := Q3.qb.frozen 2; simp only [List.getElem?_cons_zero, List.getElem?_cons_succ] at qc3)
              | (go_at_call 72; refine absC ?_; intro W4 hW4; have Q4 : QSt w r a size q (pQuery size L) (fun _ _ _ _ _ => True) (.slice A2' cols'.length cap2') vW cols' whr n lim L3 W4 := (by rw [hW4]; exact QSt.store 2 _ Q3 rfl Q3.rowW Q3.neW trivial); clear hW4; refine (has_calls _ r a L3 size sDown Q4.pr _ rfl).mono ?_; rintro e W5 ⟨rfl, E5, P5⟩))
            rcases hd : pHas sDown L3 with _ | _
            · have Hd := Lib.hid hd
              rw [hd] at P5
              simp only [Bool.false_eq_true, if_false] at P5
              clear hd
              go_wp2_with fail
              go_meet
              case rel =>
                refine ⟨_, vW, cols', whr, n, lim, L3, QSt.read Q4 E5 P5 ⟨hl0, ?_⟩⟩
                rw [Hr.out, Hd.out]
                rfl
            · have Hd := Lib.hid hd
              rw [hd] at P5
              simp only [if_true] at P5
              clear hd
              have Q5 : QSt w r a size q (pQuery size L) (fun _ _ _ _ _ => True) (.slice A2' cols'.length cap2') vW cols' whr n lim L3.tail W5 := QSt.read Q4 E5 P5 trivial
              have qc5 := Q5.qb.cell 2
              have qf5 := Q5.qb.frozen 2
              simp only [List.getElem?_cons_zero, List.getElem?_cons_succ] at qc5
              go_wp2_with fail
              rw [wrap_neg hrng.out]
              go_meet
              case rel =>
                refine ⟨_, vW, cols', whr, -n, lim, L3.tail, QSt.store 2 _ Q5 rfl Q5.rowW Q5.neW ⟨hl0, ?_⟩⟩
                rw [Hr.out, Hd.out]
                rfl
      case rest =>
        clear Q P2 E2
        obtain ⟨vC, vW, cols', whr, srt, lim, L', Q⟩ := hcut
        go_upto_if 31 with (go_at_call 72; refine (has_calls _ r a L' size sLimit Q.pr _ rfl).mono ?_; rintro e W1 ⟨rfl, E2, P2⟩)
        go_cut [] (fun wx => QRel w r a size q (pQuery size L) (fun cols whr srt lim L' => pQuery size L = qEnd size cols whr srt lim L') wx)
        case first =>
          obtain ⟨hl0, hq⟩ := Q.st
          have Hq := Lib.hid hq
          have HQ := Lib.hid Q
          clear hq Q
          rcases hp : pHas sLimit L' with _ | _
          · have Hp := Lib.hid hp
            rw [hp] at P2
            simp only [Bool.false_eq_true, if_false] at P2
            clear hp
            go_wp2_with fail
            go_meet
            case rel =>
              refine ⟨vC, vW, cols', whr, srt, lim, L', QSt.read HQ.out E2 P2 ?_⟩
              rw [Hq.out, hl0]
              unfold qLim pLimit
              rw [Hp.out]
              rfl
          · have Hp := Lib.hid hp
            rw [hp] at P2
            simp only [if_true] at P2
            clear hp
            have Q2 : QSt w r a size q (pQuery size L) (fun _ _ _ _ _ => True) vC vW cols' whr srt lim L'.tail W1 := QSt.read HQ.out E2 P2 trivial
            rcases hnum : pNum size 1 1000 L'.tail with ⟨p, e0⟩ | ⟨n, L3⟩
            · have Hr : Hid (pQuery size L = .error (p, e0)) := by
                unfold Hid
                rw [Hq.out]
                unfold qLim pLimit
                rw [if_pos Hp.out, hnum]
              have Hn := Lib.hid hnum
              clear hnum
              go_wp2_with (go_at_call 75; refine (pnum_err _ r a L'.tail size 1 1000 P2 p e0 Hn.out).mono ?_; rintro e w3 ⟨rfl, E3⟩; unfold thrown)
              refine ⟨rfl, (Q2.ext.trans E3), ?_⟩
              rw [Hr.out]
              rfl
            · have Hr : Hid (pQuery size L = qEnd size cols' whr srt n L3) := by
                unfold Hid
                rw [Hq.out]
                unfold qLim pLimit
                rw [if_pos Hp.out, hnum]
              have Hn := Lib.hid hnum
              clear hnum
              go_wp2_with (go_at_call 75; refine (pnum_ok _ r a L'.tail size 1 1000 P2 n L3 Hn.out).mono ?_; rintro e w3 ⟨rfl, E3, P3⟩; have Q3 : QSt w r a size q (pQuery size L) (fun _ _ _ _ _ => True) vC vW cols' whr srt lim L3 w3 := QSt.read Q2 E3 P3 trivial; have qc3 := Q3.qb.cell 3; have qf3 := Q3.qb.frozen 3; simp only [List.getElem?_cons_zero, List.getElem?_cons_succ] at qc3)
              go_meet
              case rel => exact ⟨vC, vW, cols', whr, srt, n, L3, QSt.store 3 _ Q3 rfl Q3.rowW Q3.neW Hr.out⟩
        case rest =>
          clear Q P2 E2
          obtain ⟨vC, vW, cols', whr, srt, lim, L', Q⟩ := hcut
          obtain ⟨A2, cap2, rfl⟩ := ownsRow_shape Q.rowC
          obtain ⟨A3, cap3, rfl⟩ := ownsRow_shape Q.rowW
          have c3 := Q.pr.ok
          have q0 := Q.qb.cell 0
          have q1 := Q.qb.cell 1
          have q2 := Q.qb.cell 2
          have q3 := Q.qb.cell 3
          have s0 := Q.s.cell 0
          have s1 := Q.s.cell 1
          have s2 := Q.s.cell 2
          have s3 := Q.s.cell 3
          have g0 := Q.s.frozen 0
          have g1 := Q.s.frozen 1
          have g2 := Q.s.frozen 2
          have g3 := Q.s.frozen 3
          have hlt := Q.lt
          simp only [List.getElem?_cons_zero, List.getElem?_cons_succ] at q0 q1 q2 q3 s0 s1 s2 s3
          have Hq := Lib.hid Q.st
          rcases L' with _ | ⟨t, L'⟩
          · simp only [List.isEmpty_nil, Bool.not_true] at c3
            have HQ := Lib.hid Q
            clear Q
            go_wp2_with fail
            refine bodyPost_ret (v := .agg #[.slice A2 cols'.length cap2, .slice A3 whr.length cap3, .int .i64 srt, .int .i64 lim]) (by simp [results, Tryz.results29, go_sem, s0, s1, s2, s3, g0, g1, g2, g3]) rfl ?_
            have e : Ext [w.heap.size] wc _ := ((((Ext.refl [w.heap.size] wc).setCell ⟨w.heap.size, 0, none⟩ (by simp) (.slice A2 cols'.length cap2)).setCell ⟨w.heap.size, 1, none⟩ (by simp) (.slice A3 whr.length cap3)).setCell ⟨w.heap.size, 2, none⟩ (by simp) (.int .i64 srt)).setCell ⟨w.heap.size, 3, none⟩ (by simp) (.int .i64 lim)
            refine ⟨HQ.out.ext.step e (by intro x hx; simp at hx; right; omega), ?_⟩
            rw [Hq.out]
            exact ⟨_, _, rfl, ownsRow_ext' HQ.out.rowC e (by intro b hb; have := HQ.out.neC b hb; simp; omega), ownsRow_ext' HQ.out.rowW e (by intro b hb; have := HQ.out.neW b hb; simp; omega)⟩
          · simp only [List.isEmpty_cons, Bool.not_false] at c3
            have HQ := Lib.hid Q
            clear Q
            go_wp2_with (go_at_call 76; refine (throw_calls _ r a (t :: L') size 61 HQ.out.pr).mono ?_; rintro e w2 ⟨rfl, rfl⟩; unfold thrown)
            refine ⟨rfl, HQ.out.ext, ?_⟩
            rw [Hq.out]
            rfl
end Go.Proofs.YtkpholfdjgdjnaaGreatDoor
