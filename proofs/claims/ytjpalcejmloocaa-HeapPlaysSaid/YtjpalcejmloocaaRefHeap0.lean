/-
  Chapter 5's reference (colloquyref05): how its heap lies in memory.
-/
import Derived.Test.YtjpalcejmloocaaRefFree
import Derived.Test.YtjpalcejmloocaaPlaysPlain2
import Derived.Deep.AppendLies
namespace Go.Proofs.Ytjpalcejmloocaa.RefHeap
open Go.RowKit Go.Proofs.Ytjpalcejmloocaa.Plain Go.Proofs.Ytjpalcejmloocaa.Free Go.Proofs.Ytjpalcejmloocaa.Heap Go.Proofs.Ytjpalcejmloocaa.RefFree
set_option linter.unusedVariables false
/-- an object; where its fields and its bytes are -/
structure QO where
  o : PO
  vF : Value
  vB : Value
def cellsO (q : QO) : List Value := [.int .i64 ((q.o.k : Int) + 1), .int .i64 (3 + (q.o.W : Int)), .int .i64 q.o.fmt, .int .i64 q.o.cls, .int .i64 q.o.hash, q.vF, q.vB, .int .i64 q.o.col, .bool q.o.fin]
def rowO (Q : List QO) : List Value := Q.flatMap cellsO
theorem rowO_len (Q : List QO) : (rowO Q).length = Q.length * 9 := by
  unfold rowO
  induction Q with
  | nil => rfl
  | cons q Q ih => simp only [List.flatMap_cons, List.length_append, ih, List.length_cons, show (cellsO q).length = 9 from rfl]; omega
theorem rowO_app (A B : List QO) : rowO (A ++ B) = rowO A ++ rowO B := by unfold rowO; simp
theorem rowO_cons (q : QO) (B : List QO) : rowO (q :: B) = cellsO q ++ rowO B := by unfold rowO; simp
theorem rowO_mid (A B : List QO) (q : QO) (j : Nat) (hj : j < 9) : (rowO (A ++ q :: B))[A.length * 9 + j]? = (cellsO q)[j]? := by
  rw [rowO_app, rowO_cons, List.getElem?_append_right (by rw [rowO_len]; omega), rowO_len, show A.length * 9 + j - A.length * 9 = j by omega, List.getElem?_append_left (by show j < 9; exact hj)]
/-- a reference's heap: its objects from the lowest place on, each with fields and bytes of its own; which words are free -/
structure HAt (w : World) (h f ib base n : Nat) (vL : Value) (Q : List QO) (is : List Bool) : Prop where
  blk : Blk w h 43 #[vL, .pointer (some ⟨f, 0, none⟩)]
  row : w.ownsRow base 47 9 vL Q.length (rowO Q)
  fr : FS w f ib n is
  fs : ∀ q ∈ Q, w.ownsRow base 28 1 q.vF q.o.F.length (q.o.F.map (Value.int .u32))
  bs : ∀ q ∈ Q, w.ownsRow base 5 1 q.vB q.o.B.length (q.o.B.map (Value.int .u8))
  apF : Q.Pairwise (fun a b => ∀ k, a.vF.ownBlock = some k → b.vF.ownBlock ≠ some k)
  apB : Q.Pairwise (fun a b => ∀ k, a.vB.ownBlock = some k → b.vB.ownBlock ≠ some k)
  lo : base ≤ h ∧ base ≤ f ∧ base ≤ ib
  few : Q.length ≤ 100
theorem own_blk {w : World} {base g : Nat} {e : TypeId} {sz n : Nat} {v : Value} {xs : List Value} (h : w.ownsRow base e sz v n xs) (hg : v.ownBlock = some g) : base ≤ g ∧ ∃ cs, Blk w g e cs := by
  rcases h.2 with ⟨rfl, _⟩ | ⟨g', cap, cur, rfl, hb, hk, _⟩
  · cases hg
  · simp [Value.ownBlock] at hg; subst hg; exact ⟨hb, cur, hk⟩
theorem own_cell {w : World} {base : Nat} {e : TypeId} {sz n : Nat} {v : Value} {xs : List Value} (h : w.ownsRow base e sz v n xs) (hn : 0 < n) : ∃ g cap, v = .slice (some ⟨g, 0, none⟩) n cap ∧ base ≤ g ∧ g < w.heap.size ∧ n ≤ cap ∧ cap ≤ maxLen ∧ (∀ k, w.frozen? ⟨g, k, none⟩ = false) ∧ ∀ k u, xs[k]? = some u → w.cell? ⟨g, k, none⟩ = some u := by
  rcases h.2 with ⟨_, h0⟩ | ⟨g, cap, cur, rfl, hb, hk, h1, h2, h3, h4⟩
  · omega
  · have hB : Blk w g e cur := hk
    refine ⟨g, cap, rfl, hb, hB.lt, h1, h2, fun k => hB.frozen k, fun k u hu => ?_⟩
    rw [hB.cell, ← Array.getElem?_toList]
    rw [← h4, List.getElem?_take] at hu
    split at hu
    · exact hu
    · cases hu
/-- a cell of an own row is turned -/
theorem own_set {w : World} {base g : Nat} {e : TypeId} {sz n cap k : Nat} {xs : List Value} (h : w.ownsRow base e sz (.slice (some ⟨g, 0, none⟩) n cap) n xs) (hk : k < n * sz) (u : Value) : (w.setCell ⟨g, k, none⟩ u).ownsRow base e sz (.slice (some ⟨g, 0, none⟩) n cap) n (xs.set k u) := by
  refine ⟨by rw [List.length_set]; exact h.1, ?_⟩
  rcases h.2 with ⟨h0, _⟩ | ⟨g', cap', cur, e1, hb, hk', h1, h2, h3, h4⟩
  · cases h0
  · injection e1 with e1 e2 e3
    injection e1 with e1
    injection e1 with e1 _ _
    subst e1 e3
    have hB : Blk w g e cur := hk'
    refine .inr ⟨g, cap, cur.setIfInBounds k u, rfl, hb, hB.set k u, h1, h2, by simp [h3], ?_⟩
    rw [Array.toList_setIfInBounds, List.take_set, h4]
def rts : List TypeId := [43, 47, 28, 5, 4]
def RS (base : Nat) (w : World) (k : Nat) : Prop := base ≤ k ∧ ∃ t cs, t ∈ rts ∧ Blk w k t cs
/-- only the reference's own blocks have turned, and new ones have come -/
def RK (base : Nat) (w w' : World) : Prop := Keep (RS base w) w w'
theorem RK.refl (base : Nat) (w : World) : RK base w w := Keep.refl _ _
theorem RK.of_ext {base : Nat} {a b : World} (x : Ext a b) : RK base a b := Keep.of_ext x _
theorem RK.trans {base : Nat} {a b c : World} (h : RK base a b) (k : RK base b c) : RK base a c := by
  refine ⟨k.os.trans h.os, k.tape.trans h.tape, k.output.trans h.output, Nat.le_trans h.size k.size, fun i hi hn => ?_⟩
  have e := h.block i hi hn
  refine (k.block i (Nat.lt_of_lt_of_le hi h.size) ?_).trans e
  rintro ⟨hb, t, cs, ht, hk⟩
  exact hn ⟨hb, t, cs, ht, e.symm.trans hk⟩
theorem RK.one {base g : Nat} {t : TypeId} {cs : Array Value} {w w' : World} (hb : base ≤ g) (B : Blk w g t cs) (ht : t ∈ rts) (k : Keep (· = g) w w') : RK base w w' := Keep.mono k (fun j e => by subst e; exact ⟨hb, t, cs, ht, B⟩)
theorem RK.blk {base g : Nat} {t : TypeId} {cs : Array Value} {w w' : World} (k : RK base w w') (B : Blk w g t cs) (h : g < base ∨ t ∉ rts) : Blk w' g t cs :=
  B.keep k (by
    rintro ⟨hb, t', cs', ht, hk⟩
    rcases h with h | h
    · omega
    · by_cases e : t = t'
      · subst e; exact h ht
      · exact B.ne hk e rfl)
section
variable {w w' : World} {h f ib base n : Nat} {vL : Value} {Q A B : List QO} {q : QO} {is : List Bool}
/-- whatever leaves all its blocks -/
theorem HAt.keep {S : Nat → Prop} (H : HAt w h f ib base n vL Q is) (k : Keep S w w') (hs : ∀ g t cs, base ≤ g → Blk w g t cs → t ∈ 71 :: rts → ¬ S g) : HAt w' h f ib base n vL Q is := by
  have ok : ∀ {e : TypeId} {sz m : Nat} {v : Value} {xs : List Value}, e ∈ 71 :: rts → w.ownsRow base e sz v m xs → w'.ownsRow base e sz v m xs := fun he ho => own_keep ho k (fun g hg hS => by
    obtain ⟨b1, cs, b2⟩ := own_blk ho hg
    exact hs g _ cs b1 b2 he hS)
  exact ⟨H.blk.keep k (hs _ _ _ H.lo.1 H.blk (by decide)), ok (by decide) H.row, H.fr.keep k (hs _ _ _ H.lo.2.1 H.fr.blk (by decide)) (hs _ _ _ H.lo.2.2 H.fr.bs (by decide)), fun p hp => ok (by decide) (H.fs p hp), fun p hp => ok (by decide) (H.bs p hp), H.apF, H.apB, H.lo, H.few⟩
theorem HAt.ext (H : HAt w h f ib base n vL Q is) (x : Ext w w') : HAt w' h f ib base n vL Q is := H.keep (Keep.of_ext x (fun _ => False)) (fun _ _ _ _ _ _ hf => hf)
/-- behind the program's own heap -/
theorem HAt.hk {b0 : Nat} {o : O3} (H : HAt w h f ib base n vL Q is) (k : HKp b0 o w w') (ho : o.sb < base ∧ o.f < base ∧ o.bb < base) : HAt w' h f ib base n vL Q is :=
  H.keep k (by
    rintro g t cs hb hB ht ⟨_, hk | ⟨cs', hk⟩⟩
    · omega
    · by_cases e : t = 78
      · subst e; exact absurd ht (by decide)
      · exact hB.ne hk e rfl)
/-- the program's own heap behind the reference's -/
theorem heap_rk {h0 b0 : Nat} {o : O3} {S : List Int} {L : List Run} {Bg : List Bool} (H : Heap w h0 b0 o S L Bg) (k : RK base w w') (ho : o.sb < base ∧ o.f < base ∧ o.bb < base) : Heap w' h0 b0 o S L Bg := by
  obtain ⟨s, sb, f, bb, v, rfl, H⟩ := H
  refine ⟨s, sb, f, bb, v, rfl, k.blk H.blk (.inr (by decide)), ?_, ?_, k.blk H.bg (.inl ho.2.2), H.len, H.up, H.wd, H.lo⟩
  · exact ⟨k.blk H.sto.head (.inr (by decide)), k.blk H.sto.row (.inl ho.1), H.sto.le⟩
  · refine ⟨k.blk H.fre.blk (.inl ho.2.1), own_keep H.fre.own k (fun g hg => ?_), H.fre.len, H.fre.bd⟩
    obtain ⟨_, cur, hc⟩ := H.rowBlk g hg
    rintro ⟨_, t, cs, ht, hB⟩
    by_cases e : t = 78
    · subst e; exact absurd ht (by decide)
    · exact hB.ne hc e rfl
end
end Go.Proofs.Ytjpalcejmloocaa.RefHeap
