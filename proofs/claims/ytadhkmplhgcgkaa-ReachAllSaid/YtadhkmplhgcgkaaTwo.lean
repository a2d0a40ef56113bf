/-
  A region that draws its order: two rows are read or made, two blocks are made, the rows are laid down in them: what holds behind any part of it.
-/
import Derived.Test.YtadhkmplhgcgkaaImage9
namespace Go.Proofs.Ytadhkmplhgcgkaa.World
open Go.RowKit Go.Proofs.Ytadhkmplhgcgkaa.Plain
set_option linter.unusedVariables false
def put2 (s : Nat → Value) (j : Nat) (v : Value) : Nat → Value := fun k => if k = j then v else s k
def bit2 (L : Nat → Bool) (j : Nat) : Nat → Bool := fun k => if k = j then true else L k
def ptr2 (g : Nat) : Value := .pointer (some ⟨g, 0, none⟩)
theorem ptr2_ne {g g' : Nat} (h : g ≠ g') : ptr2 g ≠ ptr2 g' := fun e => by
  injection e with e; injection e with e; injection e with e; exact h e
/-- every edge that binds leads back -/
def backM (md : Region.Mode) (ops : Array Oper) : Bool := (List.range ops.size).all fun i => ((ops[i]?).map (·.after.all fun e => !Region.binds md e || decide (e.on < i))).getD true
theorem all_listed_m {ops : Array Oper} {md : Region.Mode} (hb : backM md ops = true) {listed : Array Bool} (hs : listed.size = ops.size) (hr : Region.ready md ops listed = []) : ∀ i, i < ops.size → listed.getD i false = true := by
  intro i
  induction i using Nat.strongRecOn with
  | ind i ih =>
    intro hi
    cases hq : listed.getD i false with
    | true => rfl
    | false =>
      exfalso
      have hm : i ∈ Region.ready md ops listed := by
        rw [ready_iff]
        refine ⟨hi, ?_, ?_⟩
        · rw [Array.getD_eq_getD_getElem?] at hq ⊢
          have hi' : i < listed.size := by omega
          rw [Array.getElem?_eq_getElem hi'] at hq ⊢
          exact hq
        · unfold backM at hb
          rw [List.all_eq_true] at hb
          have h1 := hb i (List.mem_range.2 hi)
          rw [Array.getElem?_eq_getElem hi] at h1 ⊢
          simp only [Option.map_some, Option.getD_some] at h1 ⊢
          rw [Array.all_eq_true'] at h1 ⊢
          intro e he
          have h2 := h1 e he
          rw [Bool.or_eq_true] at h2
          rcases h2 with h2 | h2
          · rw [h2, Bool.true_or]
          · rw [ih e.on (of_decide_eq_true h2) (by have := of_decide_eq_true h2; omega), Bool.or_true]
      rw [hr] at hm
      cases hm
/-- a row of so many cells, of which more is known -/
structure RowP (n : Nat) (P : Array Value → World → Prop) (cs : Array Value) (W : World) : Prop where
  size : cs.size = n
  one : cs.all (·.oneCell') = true
  p : P cs W
/-- what a property of rows must bear -/
structure RowOk (T : TypeId) (P : Array Value → World → Prop) : Prop where
  ext : ∀ cs W W', P cs W → Ext W W' → P cs W'
  row : ∀ cs W g old c, P cs W → Blk W g T old → P cs (W.setRow g c)
structure TwoI (w0 : World) (n : Nat) (T : TypeId) (zs : Array Value) (PA PB : Array Value → World → Prop) (va vb : Value) (L : Nat → Bool) (s : Nat → Value) (W : World) : Prop where
  x : Ext w0 W
  v0 : L 0 = true → s 0 = va
  v1 : L 1 = true → ∃ cs, s 1 = .agg cs ∧ RowP n PA cs W
  v2 : L 2 = true → s 2 = vb
  v3 : L 3 = true → ∃ cs, s 3 = .agg cs ∧ RowP n PB cs W
  k6 : L 6 = true → L 4 = true
  k7 : L 7 = true → L 5 = true
  a4 : L 4 = true → L 6 = false → ∃ g, s 4 = ptr2 g ∧ w0.heap.size ≤ g ∧ Blk W g T zs
  a5 : L 5 = true → L 7 = false → ∃ g, s 5 = ptr2 g ∧ w0.heap.size ≤ g ∧ Blk W g T zs
  s6 : L 6 = true → ∃ g cs, s 4 = ptr2 g ∧ w0.heap.size ≤ g ∧ Blk W g T cs ∧ RowP n PA cs W
  s7 : L 7 = true → ∃ g cs, s 5 = ptr2 g ∧ w0.heap.size ≤ g ∧ Blk W g T cs ∧ RowP n PB cs W
  ne : L 4 = true → L 5 = true → s 4 ≠ s 5
section
variable {w0 W W' : World} {n : Nat} {T : TypeId} {zs : Array Value} {PA PB : Array Value → World → Prop} {va vb : Value} {L : Nat → Bool} {s : Nat → Value}
theorem RowP.ext {P : Array Value → World → Prop} {cs : Array Value} (h : RowP n P cs W) (o : RowOk T P) (y : Ext W W') : RowP n P cs W' := ⟨h.size, h.one, o.ext _ _ _ h.p y⟩
theorem RowP.row {P : Array Value → World → Prop} {cs c old : Array Value} {g : Nat} (h : RowP n P cs W) (o : RowOk T P) (b : Blk W g T old) : RowP n P cs (W.setRow g c) := ⟨h.size, h.one, o.row _ _ _ _ _ h.p b⟩
theorem TwoI.start (w0 : World) (n : Nat) (T : TypeId) (zs : Array Value) (PA PB : Array Value → World → Prop) (va vb : Value) (s : Nat → Value) {W : World} (x : Ext w0 W) : TwoI w0 n T zs PA PB va vb (fun _ => false) s W :=
  ⟨x, fun h => (Bool.false_ne_true h).elim, fun h => (Bool.false_ne_true h).elim, fun h => (Bool.false_ne_true h).elim, fun h => (Bool.false_ne_true h).elim, fun h => (Bool.false_ne_true h).elim, fun h => (Bool.false_ne_true h).elim, fun h => (Bool.false_ne_true h).elim, fun h => (Bool.false_ne_true h).elim, fun h => (Bool.false_ne_true h).elim, fun h => (Bool.false_ne_true h).elim, fun h => (Bool.false_ne_true h).elim⟩
theorem TwoI.ext (oA : RowOk T PA) (oB : RowOk T PB) (I : TwoI w0 n T zs PA PB va vb L s W) (y : Ext W W') : TwoI w0 n T zs PA PB va vb L s W' :=
  ⟨I.x.trans y, I.v0, fun h => (I.v1 h).elim fun cs q => ⟨cs, q.1, q.2.ext oA y⟩, I.v2, fun h => (I.v3 h).elim fun cs q => ⟨cs, q.1, q.2.ext oB y⟩, I.k6, I.k7,
   fun h h' => (I.a4 h h').elim fun g q => ⟨g, q.1, q.2.1, q.2.2.ext y⟩, fun h h' => (I.a5 h h').elim fun g q => ⟨g, q.1, q.2.1, q.2.2.ext y⟩,
   fun h => by obtain ⟨g, cs, e, hb, b, r⟩ := I.s6 h; exact ⟨g, cs, e, hb, b.ext y, r.ext oA y⟩, fun h => by obtain ⟨g, cs, e, hb, b, r⟩ := I.s7 h; exact ⟨g, cs, e, hb, b.ext y, r.ext oB y⟩, I.ne⟩
theorem TwoI.op0 (I : TwoI w0 n T zs PA PB va vb L s W) : TwoI w0 n T zs PA PB va vb (bit2 L 0) (put2 s 0 va) W :=
  ⟨I.x, fun _ => rfl, I.v1, I.v2, I.v3, I.k6, I.k7, I.a4, I.a5, I.s6, I.s7, I.ne⟩
theorem TwoI.op2 (I : TwoI w0 n T zs PA PB va vb L s W) : TwoI w0 n T zs PA PB va vb (bit2 L 2) (put2 s 2 vb) W :=
  ⟨I.x, I.v0, I.v1, fun _ => rfl, I.v3, I.k6, I.k7, I.a4, I.a5, I.s6, I.s7, I.ne⟩
theorem TwoI.op1 {cs : Array Value} (I : TwoI w0 n T zs PA PB va vb L s W) (h : RowP n PA cs W) : TwoI w0 n T zs PA PB va vb (bit2 L 1) (put2 s 1 (.agg cs)) W :=
  ⟨I.x, I.v0, fun _ => ⟨cs, rfl, h⟩, I.v2, I.v3, I.k6, I.k7, I.a4, I.a5, I.s6, I.s7, I.ne⟩
theorem TwoI.op3 {cs : Array Value} (I : TwoI w0 n T zs PA PB va vb L s W) (h : RowP n PB cs W) : TwoI w0 n T zs PA PB va vb (bit2 L 3) (put2 s 3 (.agg cs)) W :=
  ⟨I.x, I.v0, I.v1, I.v2, fun _ => ⟨cs, rfl, h⟩, I.k6, I.k7, I.a4, I.a5, I.s6, I.s7, I.ne⟩
theorem TwoI.lt5 (I : TwoI w0 n T zs PA PB va vb L s W) (h : L 5 = true) : ∃ g, s 5 = ptr2 g ∧ g < W.heap.size := by
  cases h7 : L 7 with
  | false => obtain ⟨g, e, _, b⟩ := I.a5 h h7; exact ⟨g, e, b.lt⟩
  | true => obtain ⟨g, _, e, _, b, _⟩ := I.s7 h7; exact ⟨g, e, b.lt⟩
theorem TwoI.lt4 (I : TwoI w0 n T zs PA PB va vb L s W) (h : L 4 = true) : ∃ g, s 4 = ptr2 g ∧ g < W.heap.size := by
  cases h7 : L 6 with
  | false => obtain ⟨g, e, _, b⟩ := I.a4 h h7; exact ⟨g, e, b.lt⟩
  | true => obtain ⟨g, _, e, _, b, _⟩ := I.s6 h7; exact ⟨g, e, b.lt⟩
theorem TwoI.op4 (oA : RowOk T PA) (oB : RowOk T PB) (I : TwoI w0 n T zs PA PB va vb L s W) (h4 : L 4 = false) : TwoI w0 n T zs PA PB va vb (bit2 L 4) (put2 s 4 (ptr2 W.heap.size)) (W.alloc (.cells zs T)) := by
  have h6 : L 6 = false := by cases h : L 6 with | false => rfl | true => rw [I.k6 h] at h4; cases h4
  have J := I.ext oA oB ((Ext.refl W).alloc (.cells zs T))
  exact ⟨J.x, J.v0, J.v1, J.v2, J.v3, fun _ => rfl, J.k7, fun _ _ => ⟨_, rfl, I.x.below.size, Blk.new _ _ _⟩, J.a5, fun h => absurd (show L 6 = true from h) (by rw [h6]; decide), J.s7,
    fun _ h5 => by obtain ⟨g, e, hg⟩ := I.lt5 h5; show ptr2 _ ≠ s 5; rw [e]; exact ptr2_ne (by omega)⟩
theorem TwoI.op5 (oA : RowOk T PA) (oB : RowOk T PB) (I : TwoI w0 n T zs PA PB va vb L s W) (h5 : L 5 = false) : TwoI w0 n T zs PA PB va vb (bit2 L 5) (put2 s 5 (ptr2 W.heap.size)) (W.alloc (.cells zs T)) := by
  have h7 : L 7 = false := by cases h : L 7 with | false => rfl | true => rw [I.k7 h] at h5; cases h5
  have J := I.ext oA oB ((Ext.refl W).alloc (.cells zs T))
  exact ⟨J.x, J.v0, J.v1, J.v2, J.v3, J.k6, fun _ => rfl, J.a4, fun _ _ => ⟨_, rfl, I.x.below.size, Blk.new _ _ _⟩, J.s6, fun h => absurd (show L 7 = true from h) (by rw [h7]; decide),
    fun h4 _ => by obtain ⟨g, e, hg⟩ := I.lt4 h4; show s 4 ≠ ptr2 _; rw [e]; exact ptr2_ne (by omega)⟩
theorem ext_setRow {g : Nat} {c old : Array Value} (x : Ext w0 W) (hg : w0.heap.size ≤ g) (b : Blk W g T old) : Ext w0 (W.setRow g c) :=
  Ext.of_below (Keep.below x.below (keep_setRow W g c) x.below.size (fun i hi e => by have e : i = g := e; omega))
theorem blk_setRow {g : Nat} {c old : Array Value} (b : Blk W g T old) : Blk (W.setRow g c) g T c := setRow_heap W g old c T (0, 0) b
theorem blk_setFar {g k : Nat} {c cur : Array Value} {T' : TypeId} (b : Blk W k T' cur) (h : k ≠ g) : Blk (W.setRow g c) k T' cur := (setRow_other W g k c h).trans b
theorem TwoI.op6 (oA : RowOk T PA) (oB : RowOk T PB) (I : TwoI w0 n T zs PA PB va vb L s W) (h6 : L 6 = false) (h4 : L 4 = true) {g : Nat} {cs : Array Value} (e : s 4 = ptr2 g) (hg : w0.heap.size ≤ g) (b : Blk W g T zs) (r : RowP n PA cs W) :
    TwoI w0 n T zs PA PB va vb (bit2 L 6) s (W.setRow g cs) := by
  have far : ∀ g', L 5 = true → s 5 = ptr2 g' → g' ≠ g := fun g' h5 e' q => I.ne h4 h5 (by rw [e, e', q])
  refine ⟨ext_setRow I.x hg b, I.v0, fun h => (I.v1 h).elim fun cs q => ⟨cs, q.1, q.2.row oA b⟩, I.v2, fun h => (I.v3 h).elim fun cs q => ⟨cs, q.1, q.2.row oB b⟩, fun _ => h4, I.k7, fun _ h => absurd h (by simp [bit2]),
    fun h5 h7 => ?_, fun _ => ⟨g, cs, e, hg, blk_setRow b, r.row oA b⟩, fun h7 => ?_, I.ne⟩
  · obtain ⟨g', e', hg', b'⟩ := I.a5 h5 h7
    exact ⟨g', e', hg', blk_setFar b' (far g' h5 e')⟩
  · obtain ⟨g', cs', e', hg', b', r'⟩ := I.s7 h7
    exact ⟨g', cs', e', hg', blk_setFar b' (far g' (I.k7 h7) e'), r'.row oB b⟩
theorem TwoI.op7 (oA : RowOk T PA) (oB : RowOk T PB) (I : TwoI w0 n T zs PA PB va vb L s W) (h7 : L 7 = false) (h5 : L 5 = true) {g : Nat} {cs : Array Value} (e : s 5 = ptr2 g) (hg : w0.heap.size ≤ g) (b : Blk W g T zs) (r : RowP n PB cs W) :
    TwoI w0 n T zs PA PB va vb (bit2 L 7) s (W.setRow g cs) := by
  have far : ∀ g', L 4 = true → s 4 = ptr2 g' → g' ≠ g := fun g' h4 e' q => I.ne h4 h5 (by rw [e, e', q])
  refine ⟨ext_setRow I.x hg b, I.v0, fun h => (I.v1 h).elim fun cs q => ⟨cs, q.1, q.2.row oA b⟩, I.v2, fun h => (I.v3 h).elim fun cs q => ⟨cs, q.1, q.2.row oB b⟩, I.k6, fun _ => h5,
    fun h4 h6 => ?_, fun _ h => absurd h (by simp [bit2]), fun h6 => ?_, fun _ => ⟨g, cs, e, hg, blk_setRow b, r.row oB b⟩, I.ne⟩
  · obtain ⟨g', e', hg', b'⟩ := I.a4 h4 h6
    exact ⟨g', e', hg', blk_setFar b' (far g' h4 e')⟩
  · obtain ⟨g', cs', e', hg', b', r'⟩ := I.s6 h6
    exact ⟨g', cs', e', hg', blk_setFar b' (far g' (I.k6 h6) e'), r'.row oA b⟩
/-- what holds at the end -/
theorem TwoI.done (I : TwoI w0 n T zs PA PB va vb L s W) (h : ∀ i, i < 8 → L i = true) : ∃ g g' cs cs', s 4 = ptr2 g ∧ s 5 = ptr2 g' ∧ w0.heap.size ≤ g ∧ w0.heap.size ≤ g' ∧ g ≠ g' ∧ Blk W g T cs ∧ Blk W g' T cs' ∧ RowP n PA cs W ∧ RowP n PB cs' W ∧ Ext w0 W := by
  obtain ⟨g, cs, e, hg, b, r⟩ := I.s6 (h 6 (by omega))
  obtain ⟨g', cs', e', hg', b', r'⟩ := I.s7 (h 7 (by omega))
  exact ⟨g, g', cs, cs', e, e', hg, hg', fun q => I.ne (h 4 (by omega)) (h 5 (by omega)) (by rw [e, e', q]), b, b', r, r', I.x⟩
end
end Go.Proofs.Ytadhkmplhgcgkaa.World
