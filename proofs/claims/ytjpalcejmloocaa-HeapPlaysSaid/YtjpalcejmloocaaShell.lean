/-
  How arguments that came in are opened: slices of structs of numbers.
-/
import Derived.Test.YtjpalcejmloocaaExt
import Derived.Deep.Slices
import Derived.Deep.Fields
import Derived.ChangeSame
import Derived.ProofKit
import Derived.OpenShut
namespace Go.Proofs.Ytjpalcejmloocaa.Shell
open Go.ChangeShapes Go.WideShapes Go.Deep Go.RowKit

theorem bounds64 {n : Int} (h : (Lit.int .i64 n).wf = true) : -9223372036854775808 ≤ n ∧ n ≤ 9223372036854775807 := bounds_i64 h
/-- element i's field j is the number zs i j -/
def Nums (w : World) (a : Option Addr) (len C : Nat) (ks : Nat → IntKind) (zs : Nat → Nat → Int) : Prop :=
  len ≤ maxLen ∧ ∀ i, i < len → ∃ b off, a = some ⟨b, off, none⟩ ∧ b < w.heap.size ∧ ∀ j, j < C → w.cell? ⟨b, off + i * C + j, none⟩ = some (.int (ks j) (zs i j)) ∧ (Lit.int (ks j) (zs i j)).wf = true
section
variable {H : Type} {enc : TypeId × Value → H} {P : Program} {w : World}
theorem open_str {r : Reach} {b0 : Nat} {t : TypeId} {v : Value} {d : DataW H} {p : List MemPlace} (ht : P.underlying t = some .string) (hv : Value.okWide P w r b0 t v) (h : DataW.Trod enc P w 0 (fun _ => true) true t v d p) :
    ∃ s, v = .string s ∧ s.size ≤ maxLen := by
  obtain ⟨s, rfl⟩ := okWide_string ht hv
  obtain ⟨fuel, hf⟩ := h
  obtain ⟨s', hs, _, hl⟩ := DataW.trod_string ht hf
  simp [Value.cells] at hs
  exact ⟨s, rfl, by rw [hs]; exact hl⟩
theorem open_ints {r : Reach} {b0 : Nat} {t e : TypeId} {v : Value} {d : DataW H} {p : List MemPlace} (ht : P.underlying t = some (.slice e)) (he : P.underlying e = some (.int .i64)) (hc : P.cellsOf e = 1)
    (hv : Value.okWide P w r b0 t v) (h : DataW.Trod enc P w 0 (fun _ => true) true t v d p) :
    ∃ (a : Option Addr) (len cap : Nat) (z : Nat → Int), v = .slice a len cap ∧ len ≤ maxLen ∧ ∀ i, i < len → ∃ b off, a = some ⟨b, off, none⟩ ∧ b < w.heap.size ∧ w.cell? ⟨b, off + i, none⟩ = some (.int .i64 (z i)) ∧ -9223372036854775808 ≤ z i ∧ z i ≤ 9223372036854775807 := by
  obtain ⟨a, len, cap, rfl⟩ := okWide_slice ht hv
  obtain ⟨fuel, hf⟩ := h
  rcases ChangeShapes.open_ints ht he hc hf with ⟨hcs, _⟩ | ⟨x, l, c, zs, hcs, _, hl, hm, hz, _, hcell, hwz⟩
  · simp [Value.cells] at hcs
    obtain ⟨rfl, rfl, rfl⟩ := hcs
    exact ⟨none, 0, 0, fun _ => 0, rfl, Nat.zero_le _, fun i hi => absurd hi (Nat.not_lt_zero i)⟩
  · simp [Value.cells] at hcs
    obtain ⟨rfl, rfl, rfl⟩ := hcs
    simp only [if_true] at hz
    refine ⟨some x, len, cap, fun i => zs.getD i 0, rfl, by omega, fun i hi => ?_⟩
    obtain ⟨b, off, spot⟩ := x
    have hc := hcell i (by omega)
    have h0 := hcell 0 (by omega)
    have hspot : spot = none := by simpa [Addr.add] using World.cell?_spot h0
    subst hspot
    have e : (⟨b, off, none⟩ : Addr).add i = ⟨b, off + i, none⟩ := by unfold Addr.add; split <;> simp_all
    rw [e] at hc
    have hm : zs.getD i 0 ∈ zs := by
      have : i < zs.length := by omega
      rw [List.getD_eq_getElem?_getD, List.getElem?_eq_getElem this]; exact List.getElem_mem this
    obtain ⟨x1, x2⟩ := bounds_i64 (hwz _ hm)
    refine ⟨b, off, rfl, ?_, hc, x1, x2⟩
    rcases Nat.lt_or_ge b w.heap.size with hlt | hge
    · exact hlt
    · simp [World.cell?, Array.getElem?_eq_none hge] at hc
theorem open_nums {r : Reach} {b0 : Nat} {t e : TypeId} {fs : Array Field} {v : Value} {d : DataW H} {p : List MemPlace} (ht : P.underlying t = some (.slice e)) (he : P.underlying e = some (.struct fs))
    (hone : oneCellFields P fs = true) (hC : P.cellsOf e = fs.size) (ks : Nat → IntKind) (hk : ∀ j f, fs[j]? = some f → P.underlying f.type = some (.int (ks j))) (hpos : 0 < fs.size)
    (hv : Value.okWide P w r b0 t v) (h : DataW.Trod enc P w 0 (fun _ => true) true t v d p) :
    ∃ a len cap zs, v = .slice a len cap ∧ Nums w a len fs.size ks zs := by
  obtain ⟨a, len, cap, rfl⟩ := okWide_slice ht hv
  obtain ⟨fuel, hf⟩ := h
  rcases open_slice ht hf with ⟨hcs, _⟩ | ⟨x, l, c, m, n, D, Pl, hcs, hb, hl, hm, hmm, hx, hi⟩
  · simp [Value.cells] at hcs
    obtain ⟨rfl, rfl, rfl⟩ := hcs
    exact ⟨none, 0, 0, fun _ _ => 0, rfl, Nat.zero_le _, fun i hi => absurd hi (Nat.not_lt_zero i)⟩
  · simp [Value.cells] at hcs
    obtain ⟨rfl, rfl, rfl⟩ := hcs
    simp only [if_true] at hmm
    subst hmm
    have key : ∀ i, i < len → ∀ j, j < fs.size → ∃ z, w.cell? (x.add (i * fs.size + j)) = some (.int (ks j) z) ∧ (Lit.int (ks j) z).wf = true := by
      intro i him j hj
      obtain ⟨cs', hc, ht'⟩ := hi i (by omega)
      rw [hC] at hc
      obtain ⟨ys, n', hn', hy, hlen, hyl, hfd⟩ := DataW.trod_struct he ht'
      obtain ⟨_, hcl, hat⟩ := World.cells?_some hc
      have hjf : fs[j]? = some fs[j] := Array.getElem?_eq_getElem hj
      obtain ⟨ho, hk1⟩ := hone_of hone j _ hjf
      have h1 := hfd j _ hjf
      have h2 : (cs'.drop j).take 1 = [cs'[j]'(by omega)] := by rw [List.drop_eq_getElem_cons (by omega)]; rfl
      rw [ho, hk1, h2, List.getElem?_eq_getElem (by omega)] at h1
      obtain ⟨z, hz, _, hwf⟩ := DataW.trod_int (hk j _ hjf) h1
      injection hz with hz
      refine ⟨z, ?_, hwf⟩
      rw [← Go.Deep.add_add, hat j hj, List.getElem?_eq_getElem (by omega), hz]
    obtain ⟨zs, hzs⟩ : ∃ zs : Nat → Nat → Int, ∀ i, i < len → ∀ j, j < fs.size → w.cell? (x.add (i * fs.size + j)) = some (.int (ks j) (zs i j)) ∧ (Lit.int (ks j) (zs i j)).wf = true := by
      refine ⟨fun i j => if hij : i < len ∧ j < fs.size then (key i hij.1 j hij.2).choose else 0, fun i hi j hj => ?_⟩
      show w.cell? _ = some (.int (ks j) (dite _ _ _)) ∧ (Lit.int (ks j) (dite _ _ _)).wf = true
      rw [dif_pos ⟨hi, hj⟩]
      exact (key i hi j hj).choose_spec
    refine ⟨some x, len, m, zs, rfl, by omega, fun i hil => ?_⟩
    obtain ⟨b, off, spot⟩ := x
    by_cases hs : 0 < fs.size
    · have h0 := (hzs i hil 0 hs).1
      have h00 := (hzs 0 (by omega) 0 hs).1
      have hspot : spot = none := by simpa [Addr.add] using World.cell?_spot h00
      subst hspot
      have e : ∀ k, (⟨b, off, none⟩ : Addr).add k = ⟨b, off + k, none⟩ := fun k => by unfold Addr.add; split <;> simp_all
      refine ⟨b, off, rfl, ?_, fun j hj => ?_⟩
      · rw [e] at h0
        rcases Nat.lt_or_ge b w.heap.size with hlt | hge
        · exact hlt
        · simp [World.cell?, Array.getElem?_eq_none hge] at h0
      · have h1 := hzs i hil j hj
        rw [e] at h1
        rw [show off + i * fs.size + j = off + (i * fs.size + j) from by omega]
        exact h1
    · exact absurd hpos hs
end
end Go.Proofs.Ytjpalcejmloocaa.Shell
