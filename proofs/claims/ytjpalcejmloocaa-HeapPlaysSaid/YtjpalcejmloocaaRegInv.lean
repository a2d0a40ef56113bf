/-
  A region that draws its order, by what holds behind any part of it: each operation is proved once, from what holds behind those that it waits for.
-/
import Derived.Test.YtjpalcejmloocaaExt
import Derived.RegionTactic
namespace Go.Proofs.Ytjpalcejmloocaa.Plain
open Go.RowKit
set_option linter.unusedVariables false

def unl (l : List Bool) : Nat := (l.filter (!·)).length
theorem unl_set : ∀ (l : List Bool) (i : Nat), l[i]? = some false → unl (l.set i true) + 1 = unl l
  | [], _, h => by simp at h
  | b :: l, 0, h => by
    simp at h
    subst h
    simp [unl]
  | b :: l, i + 1, h => by
    have ih := unl_set l i (by simpa using h)
    cases b <;> simp [unl] at ih ⊢ <;> omega
theorem unl_zero : ∀ (l : List Bool), unl l = 0 → ∀ i, l.getD i true = true
  | [], _, i => by simp
  | b :: l, h, i => by
    cases b with
    | false => simp [unl] at h
    | true =>
      have h' : unl l = 0 := by simpa [unl] using h
      cases i with
      | zero => rfl
      | succ i => exact unl_zero l h' i
section
variable {P : Program} {ops : Array Oper} {Q : Exit → Act → World → Prop} {md : Region.Mode}
theorem ready_iff (listed : Array Bool) (i : Nat) : i ∈ Region.ready md ops listed ↔ i < ops.size ∧ listed.getD i true = false ∧ ((ops[i]?).map (·.after.all fun e => !Region.binds md e || listed.getD e.on false)).getD false = true := by
  unfold Region.ready
  rw [List.mem_filter, List.mem_range, Bool.and_eq_true, Bool.not_eq_true']
theorem wpAny_inv {Inv : Array Bool → Act → World → Prop}
    (hstep : ∀ listed a w i, Inv listed a w → i ∈ Region.ready md ops listed → wpOp P ops Q i (fun a' w' => Inv (listed.setIfInBounds i true) a' w') a w)
    (hdone : ∀ listed a w, Inv listed a w → Region.ready md ops listed = [] → Q .normal a w) :
    ∀ (fuel : Nat) (listed : Array Bool) (a : Act) (w : World), unl listed.toList ≤ fuel → Inv listed a w → wpAny P md ops Q fuel listed a w
  | 0, listed, a, w, hf, hI => by
    have hr : Region.ready md ops listed = [] := by
      rw [List.eq_nil_iff_forall_not_mem]
      intro i hi
      have h1 := ((ready_iff listed i).1 hi).2.1
      have h2 := unl_zero listed.toList (by omega) i
      rw [List.getD_eq_getElem?_getD, Array.getElem?_toList, ← Array.getD_eq_getD_getElem?] at h2
      rw [h2] at h1; cases h1
    exact ⟨hr, hdone listed a w hI hr⟩
  | fuel + 1, listed, a, w, hf, hI => by
    refine ⟨fun hr => hdone listed a w hI hr, fun i hi => wpOp_mono (fun a' w' h' => wpAny_inv hstep hdone fuel _ a' w' ?_ h') (hstep listed a w i hI hi)⟩
    have h1 := ((ready_iff listed i).1 hi).2.1
    have h2 : listed.toList[i]? = some false := by
      rw [Array.getElem?_toList]
      rw [Array.getD_eq_getD_getElem?] at h1
      cases hq : listed[i]? with
      | none => rw [hq] at h1; simp at h1
      | some b => rw [hq] at h1; simp at h1; rw [h1]
    have h3 := unl_set listed.toList i h2
    rw [Array.toList_setIfInBounds]
    omega
/-- the region: what holds at first, what each operation does, what holds at the end -/
theorem wp_region_inv {id : Nat} {a : Act} {w : World} {Inv : Array Bool → Act → World → Prop} (hm : P.follows .mixedOrders = true)
    (h0 : Inv (Array.replicate ops.size false) a w.drew)
    (hstep : ∀ listed a w i, Inv listed a w → i ∈ Region.ready .any ops listed → wpOp P ops Q i (fun a' w' => Inv (listed.setIfInBounds i true) a' w') a w)
    (hdone : ∀ listed a w, Inv listed a w → Region.ready .any ops listed = [] → Q .normal a w) : (Code.region id ops true).wp P Q a w := by
  refine wp_region_any hm (wpAny_inv hstep hdone ops.size _ a _ ?_ h0)
  have : unl (Array.replicate ops.size false).toList ≤ (Array.replicate ops.size false).toList.length := List.length_filter_le _ _
  simpa using this
/-- every edge leads back -/
def backB (ops : Array Oper) : Bool := (List.range ops.size).all fun i => ((ops[i]?).map (·.after.all fun e => decide (e.on < i))).getD true
theorem all_listed (hb : backB ops = true) {listed : Array Bool} (hs : listed.size = ops.size) (hr : Region.ready md ops listed = []) : ∀ i, i < ops.size → listed.getD i false = true := by
  intro i
  induction i using Nat.strongRecOn with
  | ind i ih =>
    intro hi
    cases hq : listed.getD i false with
    | true => rfl
    | false =>
      exfalso
      have hm : i ∈ Region.ready md ops listed := by
        rw [ready_iff]
        refine ⟨hi, ?_, ?_⟩
        · rw [Array.getD_eq_getD_getElem?] at hq ⊢
          have hi' : i < listed.size := by omega
          rw [Array.getElem?_eq_getElem hi'] at hq ⊢
          exact hq
        · unfold backB at hb
          rw [List.all_eq_true] at hb
          have h1 := hb i (List.mem_range.2 hi)
          rw [Array.getElem?_eq_getElem hi] at h1 ⊢
          simp only [Option.map_some, Option.getD_some] at h1 ⊢
          rw [Array.all_eq_true'] at h1 ⊢
          intro e he
          have h2 := of_decide_eq_true (h1 e he)
          rw [ih e.on h2 (by omega), Bool.or_true]
      rw [hr] at hm
      cases hm
theorem listed_set (listed : Array Bool) (i j : Nat) (hi : i < listed.size) : (listed.setIfInBounds i true).getD j false = (decide (i = j) || listed.getD j false) := by
  rw [Array.getD_eq_getD_getElem?, Array.getD_eq_getD_getElem?, Array.getElem?_setIfInBounds]
  by_cases h : i = j
  · subst h; simp [hi]
  · simp [h]
end
end Go.Proofs.Ytjpalcejmloocaa.Plain
