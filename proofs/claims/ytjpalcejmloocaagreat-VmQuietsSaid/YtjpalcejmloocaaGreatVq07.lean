/-
  HeapMake, as one text (a claim has at most 60 files).
-/
import Derived.Test.YtjpalcejmloocaaGreatVq06
namespace Go.Proofs.YtjpalcejmloocaaGreat.Heap
open Go.RowKit Go.Proofs.YtjpalcejmloocaaGreat.Plain Go.Proofs.YtjpalcejmloocaaGreat.Free
set_option linter.unusedVariables false

/-- only the heap's own blocks have turned (from base on, by their types), and new ones have come -/
def hts : List TypeId := [128, 197, 198, 4]
def HS (base : Nat) (w : World) (k : Nat) : Prop := base ≤ k ∧ ∃ t cs, t ∈ hts ∧ Blk w k t cs
def HKp (base : Nat) (w w' : World) : Prop := Keep (HS base w) w w'
theorem HKp.refl (base : Nat) (w : World) : HKp base w w := Keep.refl _ _
theorem HKp.trans {base : Nat} {a b c : World} (h : HKp base a b) (k : HKp base b c) : HKp base a c := by
  refine ⟨k.os.trans h.os, k.tape.trans h.tape, k.output.trans h.output, Nat.le_trans h.size k.size, fun i hi hn => ?_⟩
  have e := h.block i hi hn
  refine (k.block i (Nat.lt_of_lt_of_le hi h.size) ?_).trans e
  rintro ⟨hb, t, cs, ht, hbk⟩
  exact hn ⟨hb, t, cs, ht, e.symm.trans hbk⟩
theorem HKp.of_ext {base : Nat} {a b : World} (x : Ext a b) : HKp base a b := Keep.of_ext x _
theorem HKp.ext {base : Nat} {a b c : World} (h : HKp base a b) (x : Ext b c) : HKp base a c := h.trans (HKp.of_ext x)
theorem HKp.keep {base : Nat} {a b : World} (h : HKp base a b) : Keep (base ≤ ·) a b := Keep.mono h (fun k hk => hk.1)
theorem hk_ext {base : Nat} {a w w' : World} (x : Ext a w) (hb : a.heap.size ≤ base) (k : HKp base w w') : Ext a w' :=
  ((Keep.of_ext x (base ≤ ·)).trans k.keep).toExt (fun j hj hs => by omega)
theorem blk_hk {base : Nat} {w w' : World} {g : Nat} {t : TypeId} {cs : Array Value} (h : Blk w g t cs) (k : HKp base w w') (hn : t ∉ hts) : Blk w' g t cs :=
  h.keep k (by
    rintro ⟨_, t', cs', ht, hb⟩
    by_cases e : t = t'
    · subst e; exact hn ht
    · exact h.ne hb e rfl)
section
variable {w w' : World} {h s sb f bb base : Nat} {v : Value} {S S' : List Int} {L : List Run} {Bg : List Bool}
theorem Hp.rowBlk (H : Hp w h s sb f bb base v S L Bg) (j : Nat) (hj : v.ownBlock = some j) : base ≤ j ∧ ∃ cur, Blk w j 198 cur := by
  rcases H.fre.own.2 with ⟨rfl, _⟩ | ⟨g, cap, cur, rfl, hb, hg, _⟩
  · cases hj
  · simp [Value.ownBlock] at hj; subst hj; exact ⟨hb, cur, hg⟩
/-- behind Take -/
theorem Hp.took (H : Hp w h s sb f bb base v S L Bg) {v' : Value} {L' : List Run} (hf : Fre w' f base v' L' S.length) (k : Keep (fun j => j = f ∨ v.ownBlock = some j) w w') (hu : ∀ r ∈ L', r.1 + r.2 ≤ S.length) :
    Hp w' h s sb f bb base v' S L' Bg ∧ HKp base w w' := by
  have row := H.rowBlk
  have n1 : ¬ (h = f ∨ v.ownBlock = some h) := by
    rintro (e | e)
    · exact H.blk.ne H.fre.blk (by decide) e
    · obtain ⟨_, cur, hc⟩ := row h e; exact H.blk.ne hc (by decide) rfl
  have n2 : ¬ (s = f ∨ v.ownBlock = some s) := by
    rintro (e | e)
    · exact H.sto.head.ne H.fre.blk (by decide) e
    · obtain ⟨_, cur, hc⟩ := row s e; exact H.sto.head.ne hc (by decide) rfl
  have n3 : ¬ (sb = f ∨ v.ownBlock = some sb) := by
    rintro (e | e)
    · exact H.sto.row.ne H.fre.blk (by decide) e
    · obtain ⟨_, cur, hc⟩ := row sb e; exact H.sto.row.ne hc (by decide) rfl
  have n4 : ¬ (bb = f ∨ v.ownBlock = some bb) := by
    rintro (e | e)
    · exact H.bg.ne H.fre.blk (by decide) e
    · obtain ⟨_, cur, hc⟩ := row bb e; exact H.bg.ne hc (by decide) rfl
  refine ⟨⟨H.blk.keep k n1, H.sto.keep k n2 n3, hf, H.bg.keep k n4, H.len, hu, H.wd, H.lo⟩, Keep.mono k ?_⟩
  rintro j (rfl | e)
  · exact ⟨H.lo.2.2.2.1, _, _, by decide, H.fre.blk⟩
  · obtain ⟨q1, cur, q2⟩ := row j e
    exact ⟨q1, _, _, by decide, q2⟩
/-- behind Put -/
theorem Hp.put (H : Hp w h s sb f bb base v S L Bg) (hs : Store.Sto w' s sb S') (k : Keep (· = sb) w w') (hl : S'.length = S.length) (hw : ∀ x ∈ S', 0 ≤ x ∧ x < 4294967296) : Hp w' h s sb f bb base v S' L Bg ∧ HKp base w w' := by
  refine ⟨⟨H.blk.keep k (H.blk.ne H.sto.row (by decide)), hs, ?_, H.bg.keep k (H.bg.ne H.sto.row (by decide)), by rw [hl]; exact H.len, by rw [hl]; exact H.up, hw, H.lo⟩, Keep.mono k (fun j e => by rw [e]; exact ⟨H.lo.2.2.1, _, _, by decide, H.sto.row⟩)⟩
  rw [hl]
  refine H.fre.keep k (H.fre.blk.ne H.sto.row (by decide)) (fun j hj e => ?_)
  obtain ⟨_, cur, hc⟩ := H.rowBlk j hj
  subst e
  exact hc.ne H.sto.row (by decide) rfl
theorem wd_set {x : Int} {i : Nat} (hw : ∀ x ∈ S, 0 ≤ x ∧ x < 4294967296) (hx : 0 ≤ x ∧ x < 4294967296) : ∀ y ∈ S.set i x, 0 ≤ y ∧ y < 4294967296 := by
  intro y hy
  rcases List.mem_or_eq_of_mem_set hy with h | h
  · exact hw y h
  · rw [h]; exact hx
/-- a beginning is marked -/
theorem Hp.mark (H : Hp w h s sb f bb base v S L Bg) (i : Nat) (b : Bool) : Hp (w.setCell ⟨bb, i, none⟩ (.bool b)) h s sb f bb base v S L (Bg.set i b) ∧ HKp base w (w.setCell ⟨bb, i, none⟩ (.bool b)) := by
  have k := (Keep.refl (· = bb) w).setCell (p := ⟨bb, i, none⟩) rfl (.bool b)
  refine ⟨⟨?_, H.sto.keep k (H.sto.head.ne H.bg (by decide)) (H.sto.row.ne H.bg (by decide)), ?_, ?_, by rw [List.length_set]; exact H.len, H.up, H.wd, H.lo⟩, Keep.mono k (fun j e => by rw [e]; exact ⟨H.lo.2.2.2.2, _, _, by decide, H.bg⟩)⟩
  · rw [List.length_set]; exact H.blk.keep k (H.blk.ne H.bg (by decide))
  · refine H.fre.keep k (H.fre.blk.ne H.bg (by decide)) (fun j hj e => ?_)
    obtain ⟨_, cur, hc⟩ := H.rowBlk j hj
    subst e
    exact hc.ne H.bg (by decide) rfl
  · have := H.bg.set i (.bool b)
    simpa [List.map_set] using this
end
def fill (S : List Int) (p : Nat) (x : Int) : Nat → List Int
  | 0 => S
  | j + 1 => (fill S p x j).set (p + j) x
theorem fill_len (S : List Int) (p : Nat) (x : Int) (j : Nat) : (fill S p x j).length = S.length := by
  induction j with
  | zero => rfl
  | succ j ih => simp [fill, ih]
def made (S : List Int) (k W : Nat) (fmt odd cls hash x : Int) : List Int := fill (((S.set k (putN W fmt odd 0 false true)).set (k + 1) (refW cls)).set (k + 2) (intW hash)) (k + 3) x W
theorem take_up {L : List Run} {N n : Int} {b : Nat} (hu : ∀ r ∈ L, r.1 + r.2 ≤ N) (hb : b < L.length) : ∀ r ∈ takeAt L b n, r.1 + r.2 ≤ N := by
  intro r hr
  unfold takeAt at hr
  split at hr
  · exact hu r (List.mem_of_mem_eraseIdx hr)
  · rcases List.mem_or_eq_of_mem_set hr with h | h
    · exact hu r h
    · rw [h]; have := hu _ (nth_mem L b hb); show (nth L b).1 + n + ((nth L b).2 - n) ≤ N; omega
section
variable {w : World} {h base : Nat} {S : List Int} {L : List Run} {Bg : List Bool}
end
end Go.Proofs.YtjpalcejmloocaaGreat.Heap
