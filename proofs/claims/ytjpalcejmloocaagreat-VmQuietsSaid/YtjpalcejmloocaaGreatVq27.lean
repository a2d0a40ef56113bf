/-
  ReachPlain2, Reach6, Reach7, Reach8, Reach9, as one text (a claim has at most 60 files).
-/
import Derived.Test.YtjpalcejmloocaaGreatVq26
import Derived.Test.YtjpalcejmloocaaGreatVq24
import Derived.ScopeJumps
import Derived.WalkSmall
import Derived.Deep.CutBlock
import Derived.Deep.CutRange
import Derived.BigRegion
import Derived.Test.YtjpalcejmloocaaGreatVq19
import Derived.Laws.EntriesVeiled
import Derived.Deep.RegionHeld3
namespace Go.Proofs.YtjpalcejmloocaaGreat.World
open Go.RowKit Go.Proofs.YtjpalcejmloocaaGreat.Plain
set_option linter.unusedVariables false
theorem there_in {W : PW} {y : Int} (h : thereB W y = true) : 0 ≤ y ∧ y < W.L.length := by
  unfold thereB liveB at h
  simp only [Bool.and_eq_true, decide_eq_true_eq] at h
  exact h.2.1
theorem check_regs {W : PW} (h : checkB W = true) : regsB W = true := by
  unfold checkB at h
  simp only [Bool.and_eq_true] at h
  exact h.2.2.2.2
theorem regs_lens {W : PW} (h : checkB W = true) : 2 + W.R.ready.length + 2 * W.R.wait.length + W.R.due.length ≤ 4000 := by
  have hg := check_regs h
  unfold regsB at hg
  simp only [Bool.and_eq_true, Bool.or_eq_true, decide_eq_true_eq] at hg
  obtain ⟨_, _, _, _, _, _, g7, _⟩ := hg
  omega
end Go.Proofs.YtjpalcejmloocaaGreat.World
namespace Go.Proofs.YtjpalcejmloocaaGreat.World
open Go.RowKit Go.Proofs.YtjpalcejmloocaaGreat.Plain
set_option linter.unusedVariables false
attribute [local go_sem ↓] Go.wp_at_zero Go.wp_at_succ
theorem least {p : Nat → Prop} (h : ∃ n, p n) : ∃ n, p n ∧ ∀ m, p m → n ≤ m := by
  obtain ⟨n, hn⟩ := h
  induction n using Nat.strongRecOn with
  | ind n ih =>
    by_cases hm : ∃ m, m < n ∧ p m
    · obtain ⟨m, hlt, hpm⟩ := hm
      exact ih m hlt hpm
    · exact ⟨n, hn, fun m hm' => by
        rcases Nat.lt_or_ge m n with q | q
        · exact absurd ⟨m, q, hm'⟩ hm
        · exact q⟩
theorem wp_scope_enter {P : Program} {a : Act} {w : World} {Q : Exit → Act → World → Prop} {c b : Code} (l : Nat) (J : Act → World → Prop) (μ : Act → World → Nat) (hf : findLabel c l = some (.seq .skip b))
    (pass : ∀ a w, J a w → b.wp P (Exit.jump l (fun a' w' => J a' w' ∧ μ a' w' < μ a w) Q) a w)
    (first : (∀ a w, J a w → b.wp P (Exit.jump l J Q) a w) → c.wp P (Exit.jump l J Q) a w) : (Code.scope c).wp P Q a w :=
  wp_scope_jumps l J μ hf (first (fun a w h => wp_mono (pass a w h) (fun e a' w' h' => by
    cases e <;> first | exact h' | exact ⟨h'.1, h'.2.1⟩))) (fun a w h => wp_seq (wp_skip (pass a w h)))
theorem arr_set (seen : List Bool) (t : Nat) : ((seen.map Value.bool).toArray).setIfInBounds t (.bool true) = ((seen.set t true).map Value.bool).toArray := by
  rw [List.map_set]; simp
/-- the slots at the label -/
def WSlt (cs : Array Value) (weak : Bool) (g2 gS N : Nat) (vW : Value) (act : Act) : Prop := ∃ u : Nat → Value, act = { tmps := #[.agg cs, .bool weak, .pointer (some ⟨g2, 0, none⟩), u 3, .slice none 0 0, .slice (some ⟨gS, 0, none⟩) N N, vW, u 7, u 8, u 9, u 10, u 11, u 12, u 13, u 14, u 15, u 16, u 17, u 18, u 19, u 20, u 21, u 22, u 23, u 24, u 25, u 26, u 27, u 28, u 29, u 30, u 31, u 32, u 33, u 34, u 35, u 36, u 37, u 38, u 39, u 40, u 41, u 42, u 43, u 44, u 45, u 46, u 47, u 48, u 49, u 50, u 51, u 52, u 53, u 54, u 55, u 56, u 57, u 58, u 59, u 60, u 61, u 62, u 63, u 64, u 65, u 66, u 67, u 68, u 69, u 70, u 71, u 72, u 73, u 74, u 75, u 76, u 77, u 78, u 79, u 80, u 81, u 82, u 83, u 84, u 85, u 86, u 87, u 88, u 89, u 90, u 91, u 92, u 93, u 94, u 95, u 96, u 97, u 98, u 99], defers := [] }
theorem WSlt.intro (cs : Array Value) (weak : Bool) (g2 gS N : Nat) (vW : Value) (act : Act) (h : act = { tmps := #[.agg cs, .bool weak, .pointer (some ⟨g2, 0, none⟩), act.tmps.getD 3 undef, .slice none 0 0, .slice (some ⟨gS, 0, none⟩) N N, vW, act.tmps.getD 7 undef, act.tmps.getD 8 undef, act.tmps.getD 9 undef, act.tmps.getD 10 undef, act.tmps.getD 11 undef, act.tmps.getD 12 undef, act.tmps.getD 13 undef, act.tmps.getD 14 undef, act.tmps.getD 15 undef, act.tmps.getD 16 undef, act.tmps.getD 17 undef, act.tmps.getD 18 undef, act.tmps.getD 19 undef, act.tmps.getD 20 undef, act.tmps.getD 21 undef, act.tmps.getD 22 undef, act.tmps.getD 23 undef, act.tmps.getD 24 undef, act.tmps.getD 25 undef, act.tmps.getD 26 undef, act.tmps.getD 27 undef, act.tmps.getD 28 undef, act.tmps.getD 29 undef, act.tmps.getD 30 undef, act.tmps.getD 31 undef, act.tmps.getD 32 undef, act.tmps.getD 33 undef, act.tmps.getD 34 undef, act.tmps.getD 35 undef, act.tmps.getD 36 undef, act.tmps.getD 37 undef, act.tmps.getD 38 undef, act.tmps.getD 39 undef, act.tmps.getD 40 undef, act.tmps.getD 41 undef, act.tmps.getD 42 undef, act.tmps.getD 43 undef, act.tmps.getD 44 undef, act.tmps.getD 45 undef, act.tmps.getD 46 undef, act.tmps.getD 47 undef, act.tmps.getD 48 undef, act.tmps.getD 49 undef, act.tmps.getD 50 undef, act.tmps.getD 51 undef, act.tmps.getD 52 undef, act.tmps.getD 53 undef, act.tmps.getD 54 undef, act.tmps.getD 55 undef, act.tmps.getD 56 undef, act.tmps.getD 57 undef, act.tmps.getD 58 undef, act.tmps.getD 59 undef, act.tmps.getD 60 undef, act.tmps.getD 61 undef, act.tmps.getD 62 undef, act.tmps.getD 63 undef, act.tmps.getD 64 undef, act.tmps.getD 65 undef, act.tmps.getD 66 undef, act.tmps.getD 67 undef, act.tmps.getD 68 undef, act.tmps.getD 69 undef, act.tmps.getD 70 undef, act.tmps.getD 71 undef, act.tmps.getD 72 undef, act.tmps.getD 73 undef, act.tmps.getD 74 undef, act.tmps.getD 75 undef, act.tmps.getD 76 undef, act.tmps.getD 77 undef, act.tmps.getD 78 undef, act.tmps.getD 79 undef, act.tmps.getD 80 undef, act.tmps.getD 81 undef, act.tmps.getD 82 undef, act.tmps.getD 83 undef, act.tmps.getD 84 undef, act.tmps.getD 85 undef, act.tmps.getD 86 undef, act.tmps.getD 87 undef, act.tmps.getD 88 undef, act.tmps.getD 89 undef, act.tmps.getD 90 undef, act.tmps.getD 91 undef, act.tmps.getD 92 undef, act.tmps.getD 93 undef, act.tmps.getD 94 undef, act.tmps.getD 95 undef, act.tmps.getD 96 undef, act.tmps.getD 97 undef, act.tmps.getD 98 undef, act.tmps.getD 99 undef], defers := [] }) : WSlt cs weak g2 gS N vW act := ⟨fun j => act.tmps.getD j undef, h⟩
end Go.Proofs.YtjpalcejmloocaaGreat.World
namespace Go.Proofs.YtjpalcejmloocaaGreat.World
open Go.RowKit Go.Proofs.YtjpalcejmloocaaGreat.Plain
set_option linter.unusedVariables false
attribute [local go_sem ↓] Go.wp_at_zero Go.wp_at_succ
/-- what a walk answers -/
structure WalkP (w0 : World) (W : PW) (weak : Bool) (v : Value) (w' : World) : Prop where
  no : checkB W = false → v = .slice none 0 0
  yes : checkB W = true → ∃ l g, v = .slice (some ⟨g, 0, none⟩) W.L.length W.L.length ∧ RchL W.L.length (nxW W weak) (rootsOf W.R) l ∧ Blk w' g 4 (l.map Value.bool).toArray ∧ w0.heap.size ≤ g
theorem WalkP.base {w0 w1 w' : World} {W : PW} {weak : Bool} {v : Value} (h : WalkP w1 W weak v w') (x : w0.heap.size ≤ w1.heap.size) : WalkP w0 W weak v w' := ⟨h.no, fun hc => by obtain ⟨l, g, a, b, c, d⟩ := h.yes hc; exact ⟨l, g, a, b, c, by omega⟩⟩
theorem WalkP.ext {w0 w' w2 : World} {W : PW} {weak : Bool} {v : Value} (h : WalkP w0 W weak v w') (x : Ext w' w2) : WalkP w0 W weak v w2 := ⟨h.no, fun hc => by obtain ⟨l, g, a, b, c, d⟩ := h.yes hc; exact ⟨l, g, a, b, c.ext x, d⟩⟩
end Go.Proofs.YtjpalcejmloocaaGreat.World
namespace Go.Proofs.YtjpalcejmloocaaGreat.World
open Go.RowKit Go.Proofs.YtjpalcejmloocaaGreat.Plain
set_option linter.unusedVariables false
attribute [local go_sem ↓] Go.wp_at_zero Go.wp_at_succ
set_option maxRecDepth 100000 in
set_option maxHeartbeats 1000000 in
theorem canon1 {w : World} {g4 gA N : Nat} {at_ : List Int} (b4 : Blk w g4 25 #[.slice (some ⟨gA, 0, none⟩) N N]) (bA : Blk w gA 3 (at_.map (Value.int .i64)).toArray) (hl : at_.length = N) (hN : N ≤ 100000) (y : Nat) (hy : y < N) :
    Calls Tryz.prog 318 #[.int .i64 y, .pointer (some ⟨g4, 0, none⟩)] w fun e w' => e = .returned (.int .i64 (at_.getD y 0)) ∧ Ext w w' := by
  obtain ⟨p1, p2, p3⟩ := b4.rules
  have c1 : w.cell? ⟨gA, y, none⟩ = some (.int .i64 (at_.getD y 0)) := by
    rw [bA.cell]
    simp [List.getD_eq_getElem?_getD, hl, hy]
  have hA := bA.lt
  have yI : (y : Int) < (N : Int) := by omega
  generalize at_.getD y 0 = z at *
  clear b4 bA
  go_enter Tryz.func318, Tryz.ntmps318
  go_wp2_with fail
  go_ret
  exact ⟨ret_int (by simp), Ext.refl _⟩
theorem wp_any_act {P : Program} {c : Code} {Q : Exit → Act → World → Prop} {a : Act} {w : World} (h : ∀ A, A = a → c.wp P Q A w) : c.wp P Q a w := h a rfl
def toldN (f : Int → Int) (x : Int) : Int := if x = 0 then 0 else f x
end Go.Proofs.YtjpalcejmloocaaGreat.World
namespace Go.Proofs.YtjpalcejmloocaaGreat.World
open Go.RowKit Go.Proofs.YtjpalcejmloocaaGreat.Plain
set_option linter.unusedVariables false
attribute [local go_sem ↓] Go.wp_at_zero Go.wp_at_succ
/-- an element of a row of the call's own is turned -/
theorem Own.put {w : World} {base : Nat} {e : TypeId} {v u : Value} {n sz o : Nat} {c c' : Nat → Nat → Value} (h : Own w base e v n sz c) (ho : o < n * sz) (hf : flat n sz c' = (flat n sz c).set o u) :
    ∃ g cap cur, v = .slice (some ⟨g, 0, none⟩) n cap ∧ n ≤ cap ∧ cap ≤ 9223372036854775807 ∧ base ≤ g ∧ Blk w g e cur ∧ cur[o]? = (flat n sz c)[o]? ∧ ∀ w', Blk w' g e (cur.setIfInBounds o u) → Own w' base e v n sz c' := by
  have h : w.ownsRow base e sz v n (flat n sz c) := h
  rcases h.2 with ⟨rfl, h0⟩ | ⟨g, cap, cur, rfl, hb, hg, hn, hcap, hsz, ht⟩
  · subst h0; omega
  · have hm := hcap
    unfold maxLen at hm
    refine ⟨g, cap, cur, rfl, hn, by omega, hb, hg, ?_, fun w' hw => ?_⟩
    · rw [← ht, List.getElem?_take_of_lt ho]; simp
    · refine ⟨flat_len _ _ _, .inr ⟨g, cap, _, rfl, hb, hw, hn, hcap, by simpa using hsz, ?_⟩⟩
      rw [hf, ← ht]
      simp [List.take_set]
theorem flat_ints_set (l : List Int) (i : Nat) (y : Int) : flat l.length 1 (cI (l.set i y)) = (flat l.length 1 (cI l)).set i (.int .i64 y) := by
  have a : flat l.length 1 (cI l) = l.map (Value.int .i64) := flat_one l
  have b : flat (l.set i y).length 1 (cI (l.set i y)) = (l.set i y).map (Value.int .i64) := flat_one (l.set i y)
  rw [List.length_set] at b
  rw [a, b, List.map_set]
theorem wAt_set (l : List (Int × Int)) (i k : Nat) (y : Int × Int) (hi : i < l.length) : wAt (l.set i y) k = if k = i then y else wAt l k := by
  unfold wAt
  rw [List.getD_eq_getElem?_getD, List.getD_eq_getElem?_getD, List.getElem?_set]
  by_cases e : i = k
  · subst e; rw [if_pos rfl, if_pos hi, if_pos rfl]; rfl
  · rw [if_neg e, if_neg (fun h => e h.symm)]
theorem flat_waits_set (l : List (Int × Int)) (i : Nat) (hi : i < l.length) (y : Int × Int) (j : Nat) (hj : j < 2) (hy : ∀ q, q < 2 → q ≠ j → cW y q = cW (wAt l i) q) : flat l.length 2 (cWs (l.set i y)) = (flat l.length 2 (cWs l)).set (i * 2 + j) (cW y j) := by
  apply List.ext_getElem?
  intro q
  rw [List.getElem?_set, flat_len]
  by_cases hq : q < l.length * 2
  · have e : ∀ c : Nat → Nat → Value, (flat l.length 2 c)[q]? = some (c (q / 2) (q % 2)) := fun c => by
      unfold flat
      rw [List.getElem?_map, List.getElem?_range hq]; rfl
    rw [e, e]
    unfold cWs
    rw [wAt_set _ _ _ _ hi]
    by_cases h1 : q / 2 = i
    · rw [if_pos h1]
      by_cases h2 : q % 2 = j
      · rw [if_pos (by omega), if_pos (by omega), h2]
      · rw [if_neg (by omega), h1, hy _ (by omega) h2]
    · rw [if_neg h1, if_neg (by omega)]
  · have e : ∀ c : Nat → Nat → Value, (flat l.length 2 c)[q]? = none := fun c => List.getElem?_eq_none (by rw [flat_len]; omega)
    rw [e, e]
    split
    · rename_i h1
      rw [if_neg (by omega)]
    · rfl
theorem Own.away {w w' : World} {b pb : Nat} {e : TypeId} {v : Value} {n sz : Nat} {c : Nat → Nat → Value} (h : Own w b e v n sz c) (k : Keep (· = pb) w w') (hn : v.ownBlock ≠ some pb) : Own w' b e v n sz c := by
  have h : w.ownsRow b e sz v n (flat n sz c) := h
  refine ⟨h.1, ?_⟩
  rcases h.2 with hn' | ⟨g, cap, cur, e1, h1, hg, rest⟩
  · exact .inl hn'
  · exact .inr ⟨g, cap, cur, e1, h1, Blk.keep (show Blk w g e cur from hg) k (fun q => hn (by rw [e1, ← q]; rfl)), rest⟩
/-- the place of a thing that is left -/
def fA (at_ : List Int) (x : Int) : Int := at_.getD x.toNat 0
def okN (N : Nat) (x : Int) : Prop := x = 0 ∨ (0 ≤ x ∧ x < N)
def PTold (g7 : Nat) (re wa du : Value) (j : Nat) : Prop := j = g7 ∨ re.ownBlock = some j ∨ wa.ownBlock = some j ∨ du.ownBlock = some j
/-- registers on the way -/
structure TD (w0 : World) (base g7 g3 g4 gA N : Nat) (at_ : List Int) (cs : Array Value) (R : PR) (re wa du sn : Value) (wr : World) : Prop where
  b7 : Blk wr g7 31 cs
  b3 : Blk wr g3 78 #[.func (.func 318) #[] #[.pointer (some ⟨g4, 0, none⟩)]]
  b4 : Blk wr g4 25 #[.slice (some ⟨gA, 0, none⟩) N N]
  bA : Blk wr gA 3 (at_.map (Value.int .i64)).toArray
  rn : RegsNew wr base R re wa du sn
  k : Keep (PTold g7 re wa du) w0 wr
structure TS (gA N : Nat) (at_ : List Int) (re du : Value) : Prop where
  len : at_.length = N
  hN : N ≤ 100000
  are : re.ownBlock ≠ some gA
  adu : du.ownBlock ≠ some gA
section
variable {w0 w w' : World} {base g7 g3 g4 gA N : Nat} {at_ : List Int} {cs cs' : Array Value} {R : PR} {re wa du sn : Value}
theorem TD.calls (h : TD w0 base g7 g3 g4 gA N at_ cs R re wa du sn w) (s : TS gA N at_ re du) {x : Int} (hx : okN N x) : x ≠ 0 → ∀ W, Ext w W → Calls Tryz.prog 318 #[.int .i64 x, .pointer (some ⟨g4, 0, none⟩)] W fun e w' => e = .returned (.int .i64 (fA at_ x)) ∧ Ext W w' := fun h0 W x' => by
  rcases hx with e | ⟨h1, h2⟩
  · exact absurd e h0
  · obtain ⟨y, rfl⟩ := Int.eq_ofNat_of_zero_le h1
    have q := canon1 (h.b4.ext x') (h.bA.ext x') s.len s.hN y (by omega)
    unfold fA
    rw [Int.toNat_natCast]
    exact q
/-- a cell of the world's own box is turned -/
theorem TD.cell (h : TD w0 base g7 g3 g4 gA N at_ cs R re wa du sn w) (b : Blk w' g7 31 cs') (k : Keep (· = g7) w w') : TD w0 base g7 g3 g4 gA N at_ cs' R re wa du sn w' :=
  ⟨b, h.b3.keep k (h.b3.ne h.b7 (by decide)), h.b4.keep k (h.b4.ne h.b7 (by decide)), h.bA.keep k (h.bA.ne h.b7 (by decide)),
    ⟨h.rn.ap, h.rn.re.keep k h.b7 (by decide), h.rn.wa.keep k h.b7 (by decide), h.rn.du.keep k h.b7 (by decide), h.rn.sn.keep k h.b7 (by decide)⟩,
    h.k.trans (k.mono (fun j e => .inl e))⟩
theorem TD.ready (h : TD w0 base g7 g3 g4 gA N at_ cs R re wa du sn w) (s : TS gA N at_ re du) {i : Nat} (hi : i < R.ready.length) : ∃ g cap cur, re = .slice (some ⟨g, 0, none⟩) R.ready.length cap ∧ R.ready.length ≤ cap ∧ cap ≤ 9223372036854775807 ∧ Blk w g 3 cur ∧ cur[i]? = some (.int .i64 (R.ready.getD i 0)) ∧
    ∀ w' y, Blk w' g 3 (cur.setIfInBounds i (.int .i64 y)) → Keep (· = g) w w' → TD w0 base g7 g3 g4 gA N at_ cs { R with ready := R.ready.set i y } re wa du sn w' := by
  obtain ⟨g, cap, cur, e, h1, h2, h3, hb, hc, _⟩ := h.rn.re.put (o := i) (c' := cI (R.ready.set i 0)) (u := .int .i64 0) (by omega) (flat_ints_set _ _ _)
  refine ⟨g, cap, cur, e, h1, h2, hb, ?_, fun w' y b k => ?_⟩
  · rw [hc]
    have q := flat_at R.ready.length 1 (cI R.ready) i 0 hi (by omega)
    rw [Nat.mul_one, Nat.add_zero] at q
    exact q
  · obtain ⟨g', cap', cur', e', _, _, _, hb', _, hput⟩ := h.rn.re.put (o := i) (c' := cI (R.ready.set i y)) (u := .int .i64 y) (by omega) (flat_ints_set _ _ _)
    have eg : g' = g := by
      rw [e] at e'
      injection e' with e1 e2 e3; injection e1 with e1; injection e1 with e1; exact e1.symm
    subst eg
    have ec : cur' = cur := by
      have a : w.heap[g']? = _ := hb
      have a' : w.heap[g']? = _ := hb'
      rw [a] at a'
      injection a' with a'; injection a' with a'; exact a'.symm
    subst ec
    have own : re.ownBlock = some g' := by rw [e]; rfl
    have q := hput w' b
    refine ⟨h.b7.keep k (h.b7.ne hb (by decide)), h.b3.keep k (h.b3.ne hb (by decide)), h.b4.keep k (h.b4.ne hb (by decide)), h.bA.keep k (fun e => s.are (by rw [own, e])),
      ⟨h.rn.ap, ?_, h.rn.wa.keep k hb (by decide), h.rn.du.away k (h.rn.ap g' own), h.rn.sn.keep k hb (by decide)⟩, h.k.trans (k.mono (fun j ej => .inr (.inl (by rw [own, ej]))))⟩
    show Own w' base 3 re (R.ready.set i y).length 1 _
    rw [List.length_set]; exact q
theorem TD.due (h : TD w0 base g7 g3 g4 gA N at_ cs R re wa du sn w) (s : TS gA N at_ re du) {i : Nat} (hi : i < R.due.length) : ∃ g cap cur, du = .slice (some ⟨g, 0, none⟩) R.due.length cap ∧ R.due.length ≤ cap ∧ cap ≤ 9223372036854775807 ∧ Blk w g 3 cur ∧ cur[i]? = some (.int .i64 (R.due.getD i 0)) ∧
    ∀ w' y, Blk w' g 3 (cur.setIfInBounds i (.int .i64 y)) → Keep (· = g) w w' → TD w0 base g7 g3 g4 gA N at_ cs { R with due := R.due.set i y } re wa du sn w' := by
  obtain ⟨g, cap, cur, e, h1, h2, h3, hb, hc, _⟩ := h.rn.du.put (o := i) (c' := cI (R.due.set i 0)) (u := .int .i64 0) (by omega) (flat_ints_set _ _ _)
  refine ⟨g, cap, cur, e, h1, h2, hb, ?_, fun w' y b k => ?_⟩
  · rw [hc]
    have q := flat_at R.due.length 1 (cI R.due) i 0 hi (by omega)
    rw [Nat.mul_one, Nat.add_zero] at q
    exact q
  · obtain ⟨g', cap', cur', e', _, _, _, hb', _, hput⟩ := h.rn.du.put (o := i) (c' := cI (R.due.set i y)) (u := .int .i64 y) (by omega) (flat_ints_set _ _ _)
    have eg : g' = g := by
      rw [e] at e'
      injection e' with e1 e2 e3; injection e1 with e1; injection e1 with e1; exact e1.symm
    subst eg
    have ec : cur' = cur := by
      have a : w.heap[g']? = _ := hb
      have a' : w.heap[g']? = _ := hb'
      rw [a] at a'
      injection a' with a'; injection a' with a'; exact a'.symm
    subst ec
    have own : du.ownBlock = some g' := by rw [e]; rfl
    have q := hput w' b
    refine ⟨h.b7.keep k (h.b7.ne hb (by decide)), h.b3.keep k (h.b3.ne hb (by decide)), h.b4.keep k (h.b4.ne hb (by decide)), h.bA.keep k (fun e => s.adu (by rw [own, e])),
      ⟨h.rn.ap, h.rn.re.away k (fun e => h.rn.ap g' e own), h.rn.wa.keep k hb (by decide), ?_, h.rn.sn.keep k hb (by decide)⟩, h.k.trans (k.mono (fun j ej => .inr (.inr (.inr (by rw [own, ej])))))⟩
    show Own w' base 3 du (R.due.set i y).length 1 _
    rw [List.length_set]; exact q
theorem TD.wait (h : TD w0 base g7 g3 g4 gA N at_ cs R re wa du sn w) {i j : Nat} (hi : i < R.wait.length) (hj : j < 2) : ∃ g cap cur, wa = .slice (some ⟨g, 0, none⟩) R.wait.length cap ∧ R.wait.length ≤ cap ∧ cap ≤ 9223372036854775807 ∧ Blk w g 96 cur ∧ cur[i * 2 + j]? = some (cW (wAt R.wait i) j) ∧
    ∀ w' y, (∀ q, q < 2 → q ≠ j → cW y q = cW (wAt R.wait i) q) → Blk w' g 96 (cur.setIfInBounds (i * 2 + j) (cW y j)) → Keep (· = g) w w' → TD w0 base g7 g3 g4 gA N at_ cs { R with wait := R.wait.set i y } re wa du sn w' := by
  obtain ⟨g, cap, cur, e, h1, h2, h3, hb, hc, _⟩ := h.rn.wa.put (o := i * 2 + j) (c' := cWs (R.wait.set i (wAt R.wait i))) (u := cW (wAt R.wait i) j) (by omega) (flat_waits_set _ _ hi _ _ hj (fun _ _ _ => rfl))
  refine ⟨g, cap, cur, e, h1, h2, hb, ?_, fun w' y hy b k => ?_⟩
  · rw [hc]
    exact flat_at R.wait.length 2 (cWs R.wait) i j hi hj
  · obtain ⟨g', cap', cur', e', _, _, _, hb', _, hput⟩ := h.rn.wa.put (o := i * 2 + j) (c' := cWs (R.wait.set i y)) (u := cW y j) (by omega) (flat_waits_set _ _ hi _ _ hj hy)
    have eg : g' = g := by
      rw [e] at e'
      injection e' with e1 e2 e3; injection e1 with e1; injection e1 with e1; exact e1.symm
    subst eg
    have ec : cur' = cur := by
      have a : w.heap[g']? = _ := hb
      have a' : w.heap[g']? = _ := hb'
      rw [a] at a'
      injection a' with a'; injection a' with a'; exact a'.symm
    subst ec
    have own : wa.ownBlock = some g' := by rw [e]; rfl
    have q := hput w' b
    refine ⟨h.b7.keep k (h.b7.ne hb (by decide)), h.b3.keep k (h.b3.ne hb (by decide)), h.b4.keep k (h.b4.ne hb (by decide)), h.bA.keep k (h.bA.ne hb (by decide)),
      ⟨h.rn.ap, h.rn.re.keep k hb (by decide), ?_, h.rn.du.keep k hb (by decide), h.rn.sn.keep k hb (by decide)⟩, h.k.trans (k.mono (fun j ej => .inr (.inr (.inl (by rw [own, ej])))))⟩
    show Own w' base 96 wa (R.wait.set i y).length 2 _
    rw [List.length_set]; exact q
end
end Go.Proofs.YtjpalcejmloocaaGreat.World
