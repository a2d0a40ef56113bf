/-
  A region that draws its order, of many operations: that its lexical order serves every order, reckoned cheaply.
-/
import Derived.Test.YtjpalcejmloocaaRegInv
import Derived.NoCompilerSame
import Derived.Still
namespace Go.Proofs.Ytjpalcejmloocaa.Plain
open Go.RowKit
set_option linter.unusedVariables false
structure OT where
  after : List Nat
  dst : Nat
  looks : List Nat
def otOf (ops : Array Oper) (o : Oper) : OT := ⟨(o.after.toList.filter (Region.binds .any)).map (·.on), (match o.dst with | some d => d + 1 | none => 0), o.looksAt ops⟩
def apartT (x y : OT) : Bool :=
  (match x.dst with
   | d + 1 => !(y.looks).contains d && y.dst != d + 1
   | 0 => true) &&
  (match y.dst with
   | d + 1 => !(x.looks).contains d
   | 0 => true)
def fastGo : Nat → List OT → Bool
  | _, [] => true
  | i, x :: rest => x.after.all (fun e => decide (e < i)) && rest.all (fun y => y.after.contains i || apartT x y) && fastGo (i + 1) rest
theorem apart_tab (ops : Array Oper) (x y : Nat) (ox oy : Oper) (hx : ops[x]? = some ox) (hy : ops[y]? = some oy) : (RegionTabs.of .any ops).apart x y = apartT (otOf ops ox) (otOf ops oy) := by
  unfold RegionTabs.apart apartT otOf
  rw [RegionTabs.dst_at .any ops x ox hx, RegionTabs.dst_at .any ops y oy hy, RegionTabs.looks_at .any ops x ox hx, RegionTabs.looks_at .any ops y oy hy]
  cases ox.dst <;> cases oy.dst <;> rfl
theorem fast_from (ops : Array Oper) : ∀ (l : List Oper) (k : Nat) (listed : Array Bool), (∀ j, l[j]? = ops[k + j]?) → listed.size = ops.size → (∀ j, j < ops.size → listed.getD j false = decide (j < k)) → fastGo k (l.map (otOf ops)) = true → Region.lexFrom .any ops l.length k listed = true
  | [], k, listed, hl, hs, hL, _ => by
    have hk : ops.size ≤ k := by
      have := hl 0
      simp at this
      exact this
    show (Region.ready .any ops listed).isEmpty = true
    rw [List.isEmpty_iff, List.eq_nil_iff_forall_not_mem]
    intro i hi
    obtain ⟨h1, h2, _⟩ := (ready_iff _ _).1 hi
    have h3 := hL i h1
    rw [decide_eq_true (by omega), Array.getD_eq_getD_getElem?] at h3
    rw [Array.getD_eq_getD_getElem?] at h2
    cases hq : listed[i]? with
    | none => rw [hq] at h3; cases h3
    | some b => rw [hq] at h2 h3; simp at h2 h3; rw [h2] at h3; cases h3
  | o :: l, k, listed, hl, hs, hL, hB => by
    have h0 : ops[k]? = some o := by simpa using (hl 0).symm
    have hk : k < ops.size := by
      rcases Nat.lt_or_ge k ops.size with h | h
      · exact h
      · rw [Array.getElem?_eq_none h] at h0; cases h0
    simp only [List.map_cons, fastGo, Bool.and_eq_true, List.all_eq_true, decide_eq_true_eq] at hB
    obtain ⟨⟨hb, hf⟩, hB'⟩ := hB
    have gT : ∀ j, j < ops.size → listed.getD j true = decide (j < k) := fun j hj => by
      have := hL j hj
      rw [Array.getD_eq_getD_getElem?, Array.getElem?_eq_getElem (by omega)] at this ⊢
      exact this
    simp only [List.length_cons, Region.lexFrom, Bool.and_eq_true]
    refine ⟨⟨?_, ?_⟩, fast_from ops l (k + 1) _ (fun j => by have := hl (j + 1); simpa [Nat.add_assoc, Nat.add_comm 1 j] using this) (by simpa using hs) (fun j hj => ?_) hB'⟩
    · rw [List.contains_iff_mem, ready_iff]
      refine ⟨hk, by rw [gT k hk]; simp, ?_⟩
      rw [h0]
      simp only [Option.map_some, Option.getD_some, Array.all_eq_true_iff_forall_mem, Bool.or_eq_true, Bool.not_eq_true']
      intro e he
      cases hq : Region.binds .any e with
      | false => exact .inl rfl
      | true =>
        refine .inr ?_
        have h1 := hb e.on (List.mem_map.2 ⟨e, List.mem_filter.2 ⟨Array.mem_toList_iff.2 he, hq⟩, rfl⟩)
        rw [hL e.on (by omega), decide_eq_true h1]
    · rw [← RegionTabs.free_eq]
      unfold RegionTabs.free
      have hsz : (RegionTabs.of .any ops).after.size = ops.size := by simp [RegionTabs.of, Region.tabAfter]
      rw [hsz, decide_eq_true hk, Bool.true_and, List.all_eq_true]
      intro j hj
      rw [List.mem_range] at hj
      by_cases e1 : j = k
      · simp [e1]
      · by_cases e2 : j < k
        · rw [gT j hj, decide_eq_true e2]; simp
        · have hj2 : ops[j]? = some ops[j] := Array.getElem?_eq_getElem hj
          have hm : ops[j] ∈ l := by
            have := hl (j - k)
            rw [show k + (j - k) = j by omega, hj2, show j - k = (j - k - 1) + 1 by omega, List.getElem?_cons_succ] at this
            exact List.mem_of_getElem? this
          have h3 := hf (otOf ops ops[j]) (List.mem_map.2 ⟨_, hm, rfl⟩)
          rw [RegionTabs.after_at .any ops j _ hj2, apart_tab ops k j o _ h0 hj2]
          simp only [Bool.or_eq_true] at h3 ⊢
          rcases h3 with h3 | h3
          · exact .inl (.inr h3)
          · exact .inr h3
    · rw [listed_set listed k j (by omega), hL j hj]
      by_cases e1 : k = j
      · subst e1; simp
      · rw [decide_eq_false e1, Bool.false_or]
        congr 1
        simp
        omega
theorem lex_fast (ops : Array Oper) (hs : Region.noSelect ops = true) (h : fastGo 0 (ops.toList.map (otOf ops)) = true) : Region.lexB .any ops = true := by
  unfold Region.lexB
  rw [hs, Bool.true_and]
  have := fast_from ops ops.toList 0 (Array.replicate ops.size false) (fun j => by simp) (by simp) (fun j hj => by rw [Array.getD_eq_getD_getElem?, Array.getElem?_replicate, if_pos hj]; simp) h
  simpa using this
end Go.Proofs.Ytjpalcejmloocaa.Plain
