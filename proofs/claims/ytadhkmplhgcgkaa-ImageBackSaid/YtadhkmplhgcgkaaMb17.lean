/-
  Reach9, as one text (a claim has at most 60 files).
-/
import Derived.Test.YtadhkmplhgcgkaaMb16
namespace Go.Proofs.Ytadhkmplhgcgkaa.World
open Go.RowKit Go.Proofs.Ytadhkmplhgcgkaa.Plain
set_option linter.unusedVariables false
attribute [local go_sem ↓] Go.wp_at_zero Go.wp_at_succ
/-- an element of a row of the call's own is turned -/
theorem Own.put {w : World} {base : Nat} {e : TypeId} {v u : Value} {n sz o : Nat} {c c' : Nat → Nat → Value} (h : Own w base e v n sz c) (ho : o < n * sz) (hf : flat n sz c' = (flat n sz c).set o u) :
    ∃ g cap cur, v = .slice (some ⟨g, 0, none⟩) n cap ∧ n ≤ cap ∧ cap ≤ 9223372036854775807 ∧ base ≤ g ∧ Blk w g e cur ∧ cur[o]? = (flat n sz c)[o]? ∧ ∀ w', Blk w' g e (cur.setIfInBounds o u) → Own w' base e v n sz c' := by
  have h : w.ownsRow base e sz v n (flat n sz c) := h
  rcases h.2 with ⟨rfl, h0⟩ | ⟨g, cap, cur, rfl, hb, hg, hn, hcap, hsz, ht⟩
  · subst h0; omega
  · have hm := hcap
    unfold maxLen at hm
    refine ⟨g, cap, cur, rfl, hn, by omega, hb, hg, ?_, fun w' hw => ?_⟩
    · rw [← ht, List.getElem?_take_of_lt ho]; simp
    · refine ⟨flat_len _ _ _, .inr ⟨g, cap, _, rfl, hb, hw, hn, hcap, by simpa using hsz, ?_⟩⟩
      rw [hf, ← ht]
      simp [List.take_set]
theorem flat_ints_set (l : List Int) (i : Nat) (y : Int) : flat l.length 1 (cI (l.set i y)) = (flat l.length 1 (cI l)).set i (.int .i64 y) := by
  have a : flat l.length 1 (cI l) = l.map (Value.int .i64) := flat_one l
  have b : flat (l.set i y).length 1 (cI (l.set i y)) = (l.set i y).map (Value.int .i64) := flat_one (l.set i y)
  rw [List.length_set] at b
  rw [a, b, List.map_set]
theorem wAt_set (l : List (Int × Int)) (i k : Nat) (y : Int × Int) (hi : i < l.length) : wAt (l.set i y) k = if k = i then y else wAt l k := by
  unfold wAt
  rw [List.getD_eq_getElem?_getD, List.getD_eq_getElem?_getD, List.getElem?_set]
  by_cases e : i = k
  · subst e; rw [if_pos rfl, if_pos hi, if_pos rfl]; rfl
  · rw [if_neg e, if_neg (fun h => e h.symm)]
theorem flat_waits_set (l : List (Int × Int)) (i : Nat) (hi : i < l.length) (y : Int × Int) (j : Nat) (hj : j < 2) (hy : ∀ q, q < 2 → q ≠ j → cW y q = cW (wAt l i) q) : flat l.length 2 (cWs (l.set i y)) = (flat l.length 2 (cWs l)).set (i * 2 + j) (cW y j) := by
  apply List.ext_getElem?
  intro q
  rw [List.getElem?_set, flat_len]
  by_cases hq : q < l.length * 2
  · have e : ∀ c : Nat → Nat → Value, (flat l.length 2 c)[q]? = some (c (q / 2) (q % 2)) := fun c => by
      unfold flat
      rw [List.getElem?_map, List.getElem?_range hq]; rfl
    rw [e, e]
    unfold cWs
    rw [wAt_set _ _ _ _ hi]
    by_cases h1 : q / 2 = i
    · rw [if_pos h1]
      by_cases h2 : q % 2 = j
      · rw [if_pos (by omega), if_pos (by omega), h2]
      · rw [if_neg (by omega), h1, hy _ (by omega) h2]
    · rw [if_neg h1, if_neg (by omega)]
  · have e : ∀ c : Nat → Nat → Value, (flat l.length 2 c)[q]? = none := fun c => List.getElem?_eq_none (by rw [flat_len]; omega)
    rw [e, e]
    split
    · rename_i h1
      rw [if_neg (by omega)]
    · rfl
theorem Own.away {w w' : World} {b pb : Nat} {e : TypeId} {v : Value} {n sz : Nat} {c : Nat → Nat → Value} (h : Own w b e v n sz c) (k : Keep (· = pb) w w') (hn : v.ownBlock ≠ some pb) : Own w' b e v n sz c := by
  have h : w.ownsRow b e sz v n (flat n sz c) := h
  refine ⟨h.1, ?_⟩
  rcases h.2 with hn' | ⟨g, cap, cur, e1, h1, hg, rest⟩
  · exact .inl hn'
  · exact .inr ⟨g, cap, cur, e1, h1, Blk.keep (show Blk w g e cur from hg) k (fun q => hn (by rw [e1, ← q]; rfl)), rest⟩
/-- the place of a thing that is left -/
def fA (at_ : List Int) (x : Int) : Int := at_.getD x.toNat 0
def okN (N : Nat) (x : Int) : Prop := x = 0 ∨ (0 ≤ x ∧ x < N)
def PTold (g7 : Nat) (re wa du : Value) (j : Nat) : Prop := j = g7 ∨ re.ownBlock = some j ∨ wa.ownBlock = some j ∨ du.ownBlock = some j
/-- registers on the way -/
structure TD (w0 : World) (base g7 g3 g4 gA N : Nat) (at_ : List Int) (cs : Array Value) (R : PR) (re wa du sn : Value) (wr : World) : Prop where
  b7 : Blk wr g7 31 cs
  b3 : Blk wr g3 68 #[.func (.func 35) #[] #[.pointer (some ⟨g4, 0, none⟩)]]
  b4 : Blk wr g4 22 #[.slice (some ⟨gA, 0, none⟩) N N]
  bA : Blk wr gA 3 (at_.map (Value.int .i64)).toArray
  rn : RegsNew wr base R re wa du sn
  k : Keep (PTold g7 re wa du) w0 wr
structure TS (gA N : Nat) (at_ : List Int) (re du : Value) : Prop where
  len : at_.length = N
  hN : N ≤ 100000
  are : re.ownBlock ≠ some gA
  adu : du.ownBlock ≠ some gA
section
variable {w0 w w' : World} {base g7 g3 g4 gA N : Nat} {at_ : List Int} {cs cs' : Array Value} {R : PR} {re wa du sn : Value}
theorem TD.calls (h : TD w0 base g7 g3 g4 gA N at_ cs R re wa du sn w) (s : TS gA N at_ re du) {x : Int} (hx : okN N x) : x ≠ 0 → ∀ W, Ext w W → Calls Try.prog 35 #[.int .i64 x, .pointer (some ⟨g4, 0, none⟩)] W fun e w' => e = .returned (.int .i64 (fA at_ x)) ∧ Ext W w' := fun h0 W x' => by
  rcases hx with e | ⟨h1, h2⟩
  · exact absurd e h0
  · obtain ⟨y, rfl⟩ := Int.eq_ofNat_of_zero_le h1
    have q := canon1 (h.b4.ext x') (h.bA.ext x') s.len s.hN y (by omega)
    unfold fA
    rw [Int.toNat_natCast]
    exact q
/-- a cell of the world's own box is turned -/
theorem TD.cell (h : TD w0 base g7 g3 g4 gA N at_ cs R re wa du sn w) (b : Blk w' g7 31 cs') (k : Keep (· = g7) w w') : TD w0 base g7 g3 g4 gA N at_ cs' R re wa du sn w' :=
  ⟨b, h.b3.keep k (h.b3.ne h.b7 (by decide)), h.b4.keep k (h.b4.ne h.b7 (by decide)), h.bA.keep k (h.bA.ne h.b7 (by decide)),
    ⟨h.rn.ap, h.rn.re.keep k h.b7 (by decide), h.rn.wa.keep k h.b7 (by decide), h.rn.du.keep k h.b7 (by decide), h.rn.sn.keep k h.b7 (by decide)⟩,
    h.k.trans (k.mono (fun j e => .inl e))⟩
theorem TD.ready (h : TD w0 base g7 g3 g4 gA N at_ cs R re wa du sn w) (s : TS gA N at_ re du) {i : Nat} (hi : i < R.ready.length) : ∃ g cap cur, re = .slice (some ⟨g, 0, none⟩) R.ready.length cap ∧ R.ready.length ≤ cap ∧ cap ≤ 9223372036854775807 ∧ Blk w g 3 cur ∧ cur[i]? = some (.int .i64 (R.ready.getD i 0)) ∧
    ∀ w' y, Blk w' g 3 (cur.setIfInBounds i (.int .i64 y)) → Keep (· = g) w w' → TD w0 base g7 g3 g4 gA N at_ cs { R with ready := R.ready.set i y } re wa du sn w' := by
  obtain ⟨g, cap, cur, e, h1, h2, h3, hb, hc, _⟩ := h.rn.re.put (o := i) (c' := cI (R.ready.set i 0)) (u := .int .i64 0) (by omega) (flat_ints_set _ _ _)
  refine ⟨g, cap, cur, e, h1, h2, hb, ?_, fun w' y b k => ?_⟩
  · rw [hc]
    have q := flat_at R.ready.length 1 (cI R.ready) i 0 hi (by omega)
    rw [Nat.mul_one, Nat.add_zero] at q
    exact q
  · obtain ⟨g', cap', cur', e', _, _, _, hb', _, hput⟩ := h.rn.re.put (o := i) (c' := cI (R.ready.set i y)) (u := .int .i64 y) (by omega) (flat_ints_set _ _ _)
    have eg : g' = g := by
      rw [e] at e'
      injection e' with e1 e2 e3; injection e1 with e1; injection e1 with e1; exact e1.symm
    subst eg
    have ec : cur' = cur := by
      have a : w.heap[g']? = _ := hb
      have a' : w.heap[g']? = _ := hb'
      rw [a] at a'
      injection a' with a'; injection a' with a'; exact a'.symm
    subst ec
    have own : re.ownBlock = some g' := by rw [e]; rfl
    have q := hput w' b
    refine ⟨h.b7.keep k (h.b7.ne hb (by decide)), h.b3.keep k (h.b3.ne hb (by decide)), h.b4.keep k (h.b4.ne hb (by decide)), h.bA.keep k (fun e => s.are (by rw [own, e])),
      ⟨h.rn.ap, ?_, h.rn.wa.keep k hb (by decide), h.rn.du.away k (h.rn.ap g' own), h.rn.sn.keep k hb (by decide)⟩, h.k.trans (k.mono (fun j ej => .inr (.inl (by rw [own, ej]))))⟩
    show Own w' base 3 re (R.ready.set i y).length 1 _
    rw [List.length_set]; exact q
theorem TD.due (h : TD w0 base g7 g3 g4 gA N at_ cs R re wa du sn w) (s : TS gA N at_ re du) {i : Nat} (hi : i < R.due.length) : ∃ g cap cur, du = .slice (some ⟨g, 0, none⟩) R.due.length cap ∧ R.due.length ≤ cap ∧ cap ≤ 9223372036854775807 ∧ Blk w g 3 cur ∧ cur[i]? = some (.int .i64 (R.due.getD i 0)) ∧
    ∀ w' y, Blk w' g 3 (cur.setIfInBounds i (.int .i64 y)) → Keep (· = g) w w' → TD w0 base g7 g3 g4 gA N at_ cs { R with due := R.due.set i y } re wa du sn w' := by
  obtain ⟨g, cap, cur, e, h1, h2, h3, hb, hc, _⟩ := h.rn.du.put (o := i) (c' := cI (R.due.set i 0)) (u := .int .i64 0) (by omega) (flat_ints_set _ _ _)
  refine ⟨g, cap, cur, e, h1, h2, hb, ?_, fun w' y b k => ?_⟩
  · rw [hc]
    have q := flat_at R.due.length 1 (cI R.due) i 0 hi (by omega)
    rw [Nat.mul_one, Nat.add_zero] at q
    exact q
  · obtain ⟨g', cap', cur', e', _, _, _, hb', _, hput⟩ := h.rn.du.put (o := i) (c' := cI (R.due.set i y)) (u := .int .i64 y) (by omega) (flat_ints_set _ _ _)
    have eg : g' = g := by
      rw [e] at e'
      injection e' with e1 e2 e3; injection e1 with e1; injection e1 with e1; exact e1.symm
    subst eg
    have ec : cur' = cur := by
      have a : w.heap[g']? = _ := hb
      have a' : w.heap[g']? = _ := hb'
      rw [a] at a'
      injection a' with a'; injection a' with a'; exact a'.symm
    subst ec
    have own : du.ownBlock = some g' := by rw [e]; rfl
    have q := hput w' b
    refine ⟨h.b7.keep k (h.b7.ne hb (by decide)), h.b3.keep k (h.b3.ne hb (by decide)), h.b4.keep k (h.b4.ne hb (by decide)), h.bA.keep k (fun e => s.adu (by rw [own, e])),
      ⟨h.rn.ap, h.rn.re.away k (fun e => h.rn.ap g' e own), h.rn.wa.keep k hb (by decide), ?_, h.rn.sn.keep k hb (by decide)⟩, h.k.trans (k.mono (fun j ej => .inr (.inr (.inr (by rw [own, ej])))))⟩
    show Own w' base 3 du (R.due.set i y).length 1 _
    rw [List.length_set]; exact q
theorem TD.wait (h : TD w0 base g7 g3 g4 gA N at_ cs R re wa du sn w) {i j : Nat} (hi : i < R.wait.length) (hj : j < 2) : ∃ g cap cur, wa = .slice (some ⟨g, 0, none⟩) R.wait.length cap ∧ R.wait.length ≤ cap ∧ cap ≤ 9223372036854775807 ∧ Blk w g 75 cur ∧ cur[i * 2 + j]? = some (cW (wAt R.wait i) j) ∧
    ∀ w' y, (∀ q, q < 2 → q ≠ j → cW y q = cW (wAt R.wait i) q) → Blk w' g 75 (cur.setIfInBounds (i * 2 + j) (cW y j)) → Keep (· = g) w w' → TD w0 base g7 g3 g4 gA N at_ cs { R with wait := R.wait.set i y } re wa du sn w' := by
  obtain ⟨g, cap, cur, e, h1, h2, h3, hb, hc, _⟩ := h.rn.wa.put (o := i * 2 + j) (c' := cWs (R.wait.set i (wAt R.wait i))) (u := cW (wAt R.wait i) j) (by omega) (flat_waits_set _ _ hi _ _ hj (fun _ _ _ => rfl))
  refine ⟨g, cap, cur, e, h1, h2, hb, ?_, fun w' y hy b k => ?_⟩
  · rw [hc]
    exact flat_at R.wait.length 2 (cWs R.wait) i j hi hj
  · obtain ⟨g', cap', cur', e', _, _, _, hb', _, hput⟩ := h.rn.wa.put (o := i * 2 + j) (c' := cWs (R.wait.set i y)) (u := cW y j) (by omega) (flat_waits_set _ _ hi _ _ hj hy)
    have eg : g' = g := by
      rw [e] at e'
      injection e' with e1 e2 e3; injection e1 with e1; injection e1 with e1; exact e1.symm
    subst eg
    have ec : cur' = cur := by
      have a : w.heap[g']? = _ := hb
      have a' : w.heap[g']? = _ := hb'
      rw [a] at a'
      injection a' with a'; injection a' with a'; exact a'.symm
    subst ec
    have own : wa.ownBlock = some g' := by rw [e]; rfl
    have q := hput w' b
    refine ⟨h.b7.keep k (h.b7.ne hb (by decide)), h.b3.keep k (h.b3.ne hb (by decide)), h.b4.keep k (h.b4.ne hb (by decide)), h.bA.keep k (h.bA.ne hb (by decide)),
      ⟨h.rn.ap, h.rn.re.keep k hb (by decide), ?_, h.rn.du.keep k hb (by decide), h.rn.sn.keep k hb (by decide)⟩, h.k.trans (k.mono (fun j ej => .inr (.inr (.inl (by rw [own, ej])))))⟩
    show Own w' base 75 wa (R.wait.set i y).length 2 _
    rw [List.length_set]; exact q
end
end Go.Proofs.Ytadhkmplhgcgkaa.World
