/-
  OpenWorld, as one text (a claim has at most 60 files).
-/
import Derived.Test.YtadhkmplhgcgkaaMc03
import Derived.Deep.Slices
import Derived.Deep.Fields
import Derived.ProofKit
import Derived.OpenShut
namespace Go.Proofs.Ytadhkmplhgcgkaa.World
open Go.RowKit Go.ChangeShapes Go.WideShapes Go.Deep Go.Proofs.Ytadhkmplhgcgkaa.Plain
set_option linter.unusedVariables false
section
variable {H : Type} {enc : TypeId × Value → H} {w : World}
def Td (H : Type) (enc : TypeId × Value → H) (w : World) (t : TypeId) (cs : List Value) : Prop := ∃ fuel y, DataW.trod (H := H) enc Try.prog w 0 (fun _ => true) true fuel t cs = some y
theorem td_int {t : TypeId} {cs : List Value} (ht : Try.prog.underlying t = some (.int .i64)) (h : Td H enc w t cs) : ∃ n, cs = [.int .i64 n] ∧ in64 n := by
  obtain ⟨f, y, h⟩ := h
  obtain ⟨n, e, _, hw⟩ := DataW.trod_int ht h
  exact ⟨n, e, bounds_i64 hw⟩
theorem td_bool {t : TypeId} {cs : List Value} (ht : Try.prog.underlying t = some .bool) (h : Td H enc w t cs) : ∃ b, cs = [.bool b] := by
  obtain ⟨f, y, h⟩ := h
  obtain ⟨b, e, _⟩ := DataW.trod_bool ht h
  exact ⟨b, e⟩
theorem td_str {t : TypeId} {cs : List Value} (ht : Try.prog.underlying t = some .string) (h : Td H enc w t cs) : ∃ s, cs = [.string s] ∧ s.size ≤ maxLen := by
  obtain ⟨f, y, h⟩ := h
  obtain ⟨s, e, _, hl⟩ := DataW.trod_string ht h
  exact ⟨s, e, hl⟩
theorem td_struct {t : TypeId} {fs : Array Field} {cs : List Value} (ht : Try.prog.underlying t = some (.struct fs)) (h : Td H enc w t cs) :
    cs.length = Try.prog.cellsOf t ∧ ∀ (i : Nat) (f : Field), fs[i]? = some f → Td H enc w f.type ((cs.drop f.offset).take (Try.prog.cellsOf f.type)) := by
  obtain ⟨f, y, h⟩ := h
  obtain ⟨xs, n, _, _, hl, hx, hf⟩ := DataW.trod_struct ht h
  refine ⟨hl, fun i fd hi => ?_⟩
  have hlt : i < fs.size := (Array.getElem?_eq_some_iff.1 hi).1
  have q := hf i fd hi
  rw [List.getElem?_eq_getElem (by omega)] at q
  exact ⟨n, _, q⟩
/-- a slice's elements, each with its cells -/
theorem td_slice {t e : TypeId} {cs : List Value} (ht : Try.prog.underlying t = some (.slice e)) {C : Nat} (hC : Try.prog.cellsOf e = C) (hp : 0 < C) (h : Td H enc w t cs) :
    ∃ A n cap, cs = [.slice A n cap] ∧ n ≤ cap ∧ cap ≤ maxLen ∧ ∀ i, i < n → ∃ b off cs', A = some ⟨b, off, none⟩ ∧ b < w.heap.size ∧ (∀ j, j < C → w.cell? ⟨b, off + i * C + j, none⟩ = cs'[j]?) ∧ Td H enc w e cs' := by
  obtain ⟨f, y, h⟩ := h
  rcases open_slice ht h with ⟨hcs, _⟩ | ⟨x, l, c, m, n, D, Pl, hcs, hb, hl, hm, hmm, hx, hi⟩
  · exact ⟨none, 0, 0, hcs, Nat.le_refl _, by unfold maxLen; omega, fun i hi => absurd hi (Nat.not_lt_zero i)⟩
  · simp only [if_true] at hmm
    subst hmm
    refine ⟨some x, l, m, hcs, hl, hm, fun i hil => ?_⟩
    obtain ⟨cs', hc, ht'⟩ := hi i (by omega)
    rw [hC] at hc
    obtain ⟨_, hcl, hat⟩ := World.cells?_some hc
    obtain ⟨b, off, spot⟩ := x
    obtain ⟨cz, hz, _⟩ := hi 0 (by omega)
    rw [hC] at hz
    obtain ⟨_, hzl, hzt⟩ := World.cells?_some hz
    have h0 := hzt 0 (by omega)
    rw [List.getElem?_eq_getElem (by omega)] at h0
    have hspot : spot = none := by simpa [Addr.add] using World.cell?_spot h0
    subst hspot
    have ea : ∀ k, (⟨b, off, none⟩ : Addr).add k = ⟨b, off + k, none⟩ := fun k => by unfold Addr.add; split <;> simp_all
    refine ⟨b, off, cs', rfl, ?_, fun j hj => ?_, ⟨n, _, ht'⟩⟩
    · rw [Go.Deep.add_add, ea] at h0
      rcases Nat.lt_or_ge b w.heap.size with hlt | hge
      · exact hlt
      · simp [World.cell?, Array.getElem?_eq_none hge] at h0
    · have q := hat j hj
      rw [Go.Deep.add_add, ea, ← Nat.add_assoc] at q
      exact q
theorem choose_cells {α : Type} [Inhabited α] {n : Nat} {p : Nat → α → Prop} (h : ∀ i, i < n → ∃ x, p i x) : ∃ f : Nat → α, ∀ i, i < n → p i (f i) := choose_lt h
theorem td_ints {t : TypeId} {cs : List Value} (ht : Try.prog.underlying t = some (.slice 3)) (h : Td H enc w t cs) : ∃ v l, cs = [v] ∧ IntsAt w v l ∧ ∀ x ∈ l, in64 x := by
  obtain ⟨A, n, cap, rfl, h1, h2, h3⟩ := td_slice ht (C := 1) (by kernel_rfl) (by omega) h
  have key : ∀ i, i < n → ∃ z : Int, (∃ b off, A = some ⟨b, off, none⟩ ∧ b < w.heap.size ∧ w.cell? ⟨b, off + i, none⟩ = some (.int .i64 z)) ∧ in64 z := fun i hi => by
    obtain ⟨b, off, cs', ea, hb, hc, ht'⟩ := h3 i hi
    obtain ⟨z, rfl, hz⟩ := td_int Try.underlying3 ht'
    have := hc 0 (by omega)
    exact ⟨z, ⟨b, off, ea, hb, by simpa using this⟩, hz⟩
  obtain ⟨f, hf⟩ := choose_lt key
  refine ⟨_, (List.range n).map f, rfl, ?_, fun x hx => ?_⟩
  · refine ⟨A, cap, by simp, by simpa using h1, by unfold maxLen at h2; omega, fun i hi => ?_⟩
    have hi' : i < n := by simpa using hi
    obtain ⟨⟨b, off, ea, hb, hc⟩, _⟩ := hf i hi'
    refine ⟨b, off, ea, hb, fun j hj => ?_⟩
    obtain rfl : j = 0 := by omega
    rw [Nat.mul_one, Nat.add_zero, hc, List.getD_eq_getElem?_getD, List.getElem?_map, List.getElem?_range hi']; rfl
  · obtain ⟨i, hi, rfl⟩ := List.mem_map.1 hx
    exact (hf i (List.mem_range.1 hi)).2
theorem td_bools {t : TypeId} {cs : List Value} (ht : Try.prog.underlying t = some (.slice 4)) (h : Td H enc w t cs) : ∃ v l, cs = [v] ∧ BoolsAt w v l := by
  obtain ⟨A, n, cap, rfl, h1, h2, h3⟩ := td_slice ht (C := 1) (by kernel_rfl) (by omega) h
  have key : ∀ i, i < n → ∃ z : Bool, ∃ b off, A = some ⟨b, off, none⟩ ∧ b < w.heap.size ∧ w.cell? ⟨b, off + i, none⟩ = some (.bool z) := fun i hi => by
    obtain ⟨b, off, cs', ea, hb, hc, ht'⟩ := h3 i hi
    obtain ⟨z, rfl⟩ := td_bool Try.underlying4 ht'
    have := hc 0 (by omega)
    exact ⟨z, b, off, ea, hb, by simpa using this⟩
  obtain ⟨f, hf⟩ := choose_lt key
  refine ⟨_, (List.range n).map f, rfl, ?_⟩
  refine ⟨A, cap, by simp, by simpa using h1, by unfold maxLen at h2; omega, fun i hi => ?_⟩
  have hi' : i < n := by simpa using hi
  obtain ⟨b, off, ea, hb, hc⟩ := hf i hi'
  refine ⟨b, off, ea, hb, fun j hj => ?_⟩
  obtain rfl : j = 0 := by omega
  rw [Nat.mul_one, Nat.add_zero, hc, List.getD_eq_getElem?_getD, List.getElem?_map, List.getElem?_range hi']; rfl
theorem td_strs {t : TypeId} {cs : List Value} (ht : Try.prog.underlying t = some (.slice 9)) (h : Td H enc w t cs) : ∃ v l, cs = [v] ∧ StrsAt w v l ∧ ∀ x ∈ l, x.size ≤ maxLen := by
  obtain ⟨A, n, cap, rfl, h1, h2, h3⟩ := td_slice ht (C := 1) (by kernel_rfl) (by omega) h
  have key : ∀ i, i < n → ∃ z : ByteArray, (∃ b off, A = some ⟨b, off, none⟩ ∧ b < w.heap.size ∧ w.cell? ⟨b, off + i, none⟩ = some (.string z)) ∧ z.size ≤ maxLen := fun i hi => by
    obtain ⟨b, off, cs', ea, hb, hc, ht'⟩ := h3 i hi
    obtain ⟨z, rfl, hz⟩ := td_str Try.underlying9 ht'
    have := hc 0 (by omega)
    exact ⟨z, ⟨b, off, ea, hb, by simpa using this⟩, hz⟩
  obtain ⟨f, hf⟩ := choose_lt key
  refine ⟨_, (List.range n).map f, rfl, ?_, fun x hx => ?_⟩
  · refine ⟨A, cap, by simp, by simpa using h1, by unfold maxLen at h2; omega, fun i hi => ?_⟩
    have hi' : i < n := by simpa using hi
    obtain ⟨⟨b, off, ea, hb, hc⟩, _⟩ := hf i hi'
    refine ⟨b, off, ea, hb, fun j hj => ?_⟩
    obtain rfl : j = 0 := by omega
    unfold sAt
    rw [Nat.mul_one, Nat.add_zero, hc, List.getD_eq_getElem?_getD, List.getElem?_map, List.getElem?_range hi']; rfl
  · obtain ⟨i, hi, rfl⟩ := List.mem_map.1 hx
    exact (hf i (List.mem_range.1 hi)).2
theorem take1 {cs : List Value} {k n : Nat} {v : Value} (hn : n = 1) (h : (cs.drop k).take n = [v]) : cs[k]? = some v := by
  subst hn
  have : ((cs.drop k).take 1)[0]? = some v := by rw [h]; rfl
  rw [List.getElem?_take_of_lt (by omega), List.getElem?_drop] at this
  simpa using this
theorem td_val {cs : List Value} (h : Td H enc w 37 cs) : ∃ u : PV, cs[0]? = some (.bool u.obj) ∧ cs[1]? = some (.int .i64 u.n) ∧ in64 u.n := by
  obtain ⟨_, hf⟩ := td_struct Try.underlying37 h
  obtain ⟨b, e0⟩ := td_bool Try.underlying4 (hf 0 _ rfl)
  obtain ⟨n, e1, hn⟩ := td_int Try.underlying3 (hf 1 _ rfl)
  exact ⟨⟨b, n⟩, take1 (by kernel_rfl) e0, take1 (by kernel_rfl) e1, hn⟩
theorem td_wait {cs : List Value} (h : Td H enc w 75 cs) : ∃ u : Int × Int, cs[0]? = some (.int .i64 u.1) ∧ cs[1]? = some (.int .i64 u.2) ∧ in64 u.1 ∧ in64 u.2 := by
  obtain ⟨_, hf⟩ := td_struct Try.underlying75 h
  obtain ⟨m, e0, hm⟩ := td_int Try.underlying3 (hf 0 _ rfl)
  obtain ⟨n, e1, hn⟩ := td_int Try.underlying3 (hf 1 _ rfl)
  exact ⟨⟨m, n⟩, take1 (by kernel_rfl) e0, take1 (by kernel_rfl) e1, hm, hn⟩
instance : Inhabited PV := ⟨dV⟩
instance : Inhabited PT := ⟨dT⟩
instance : Inhabited Value := ⟨undef⟩
theorem td_vals {t : TypeId} {cs : List Value} (ht : Try.prog.underlying t = some (.slice 37)) (h : Td H enc w t cs) : ∃ v l, cs = [v] ∧ ValsAt w v l ∧ ∀ x ∈ l, in64 x.n := by
  obtain ⟨A, n, cap, rfl, h1, h2, h3⟩ := td_slice ht (C := 2) (by kernel_rfl) (by omega) h
  have key : ∀ i, i < n → ∃ z : PV, (∃ b off, A = some ⟨b, off, none⟩ ∧ b < w.heap.size ∧ w.cell? ⟨b, off + i * 2, none⟩ = some (.bool z.obj) ∧ w.cell? ⟨b, off + i * 2 + 1, none⟩ = some (.int .i64 z.n)) ∧ in64 z.n := fun i hi => by
    obtain ⟨b, off, cs', ea, hb, hc, ht'⟩ := h3 i hi
    obtain ⟨z, e0, e1, hz⟩ := td_val ht'
    exact ⟨z, ⟨b, off, ea, hb, (hc 0 (by omega)).trans e0, (hc 1 (by omega)).trans e1⟩, hz⟩
  obtain ⟨f, hf⟩ := choose_lt key
  refine ⟨_, (List.range n).map f, rfl, ?_, fun x hx => ?_⟩
  · refine ⟨A, cap, by simp, by simpa using h1, by unfold maxLen at h2; omega, fun i hi => ?_⟩
    have hi' : i < n := by simpa using hi
    obtain ⟨⟨b, off, ea, hb, hc0, hc1⟩, _⟩ := hf i hi'
    have ev : vAt ((List.range n).map f) i = f i := by unfold vAt; rw [List.getD_eq_getElem?_getD, List.getElem?_map, List.getElem?_range hi']; rfl
    refine ⟨b, off, ea, hb, fun j hj => ?_⟩
    rw [ev]
    rcases (show j = 0 ∨ j = 1 by omega) with rfl | rfl
    · exact hc0
    · exact hc1
  · obtain ⟨i, hi, rfl⟩ := List.mem_map.1 hx
    exact (hf i (List.mem_range.1 hi)).2
theorem td_waits {t : TypeId} {cs : List Value} (ht : Try.prog.underlying t = some (.slice 75)) (h : Td H enc w t cs) : ∃ v l, cs = [v] ∧ WaitsAt w v l ∧ ∀ x ∈ l, in64 x.1 ∧ in64 x.2 := by
  obtain ⟨A, n, cap, rfl, h1, h2, h3⟩ := td_slice ht (C := 2) (by kernel_rfl) (by omega) h
  have key : ∀ i, i < n → ∃ z : Int × Int, (∃ b off, A = some ⟨b, off, none⟩ ∧ b < w.heap.size ∧ w.cell? ⟨b, off + i * 2, none⟩ = some (.int .i64 z.1) ∧ w.cell? ⟨b, off + i * 2 + 1, none⟩ = some (.int .i64 z.2)) ∧ in64 z.1 ∧ in64 z.2 := fun i hi => by
    obtain ⟨b, off, cs', ea, hb, hc, ht'⟩ := h3 i hi
    obtain ⟨z, e0, e1, hz⟩ := td_wait ht'
    exact ⟨z, ⟨b, off, ea, hb, (hc 0 (by omega)).trans e0, (hc 1 (by omega)).trans e1⟩, hz⟩
  obtain ⟨f, hf⟩ := choose_lt key
  refine ⟨_, (List.range n).map f, rfl, ?_, fun x hx => ?_⟩
  · refine ⟨A, cap, by simp, by simpa using h1, by unfold maxLen at h2; omega, fun i hi => ?_⟩
    have hi' : i < n := by simpa using hi
    obtain ⟨⟨b, off, ea, hb, hc0, hc1⟩, _⟩ := hf i hi'
    have ev : wAt ((List.range n).map f) i = f i := by unfold wAt; rw [List.getD_eq_getElem?_getD, List.getElem?_map, List.getElem?_range hi']; rfl
    refine ⟨b, off, ea, hb, fun j hj => ?_⟩
    rw [ev]
    rcases (show j = 0 ∨ j = 1 by omega) with rfl | rfl
    · exact hc0
    · exact hc1
  · obtain ⟨i, hi, rfl⟩ := List.mem_map.1 hx
    exact (hf i (List.mem_range.1 hi)).2
theorem td_thing {cs : List Value} (h : Td H enc w 57 cs) : ∃ (t : PT) (vF : Value), (∀ j, j < 6 → cs[j]? = some (cT t vF j)) ∧ ValsAt w vF t.F ∧ (in64 t.cls ∧ in64 t.fmt ∧ in64 t.hash ∧ t.B.size ≤ maxLen ∧ ∀ v ∈ t.F, in64 v.n) := by
  obtain ⟨_, hf⟩ := td_struct Try.underlying57 h
  obtain ⟨c, e0, h0⟩ := td_int Try.underlying3 (hf 0 _ rfl)
  obtain ⟨f, e1, h1⟩ := td_int Try.underlying3 (hf 1 _ rfl)
  obtain ⟨hs, e2, h2⟩ := td_int Try.underlying3 (hf 2 _ rfl)
  obtain ⟨b, e3⟩ := td_bool Try.underlying4 (hf 3 _ rfl)
  obtain ⟨vF, F, e4, h4, h4'⟩ := td_vals Try.underlying39 (hf 4 _ rfl)
  obtain ⟨s, e5, h5⟩ := td_str Try.underlying9 (hf 5 _ rfl)
  refine ⟨⟨c, f, hs, b, F, s⟩, vF, fun j hj => ?_, h4, h0, h1, h2, h5, h4'⟩
  rcases (show j = 0 ∨ j = 1 ∨ j = 2 ∨ j = 3 ∨ j = 4 ∨ j = 5 by omega) with rfl | rfl | rfl | rfl | rfl | rfl
  · exact take1 (by kernel_rfl) e0
  · exact take1 (by kernel_rfl) e1
  · exact take1 (by kernel_rfl) e2
  · exact take1 (by kernel_rfl) e3
  · exact take1 (by kernel_rfl) e4
  · exact take1 (by kernel_rfl) e5
theorem td_things {t : TypeId} {cs : List Value} (ht : Try.prog.underlying t = some (.slice 57)) (h : Td H enc w t cs) : ∃ v L fs, cs = [v] ∧ ThingsAt w v L fs ∧ ∀ t ∈ L, in64 t.cls ∧ in64 t.fmt ∧ in64 t.hash ∧ t.B.size ≤ maxLen ∧ ∀ v ∈ t.F, in64 v.n := by
  obtain ⟨A, n, cap, rfl, h1, h2, h3⟩ := td_slice ht (C := 6) (by kernel_rfl) (by omega) h
  have key : ∀ i, i < n → ∃ z : PT × Value, (∃ b off, A = some ⟨b, off, none⟩ ∧ b < w.heap.size ∧ ∀ j, j < 6 → w.cell? ⟨b, off + i * 6 + j, none⟩ = some (cT z.1 z.2 j)) ∧ ValsAt w z.2 z.1.F ∧ (in64 z.1.cls ∧ in64 z.1.fmt ∧ in64 z.1.hash ∧ z.1.B.size ≤ maxLen ∧ ∀ v ∈ z.1.F, in64 v.n) := fun i hi => by
    obtain ⟨b, off, cs', ea, hb, hc, ht'⟩ := h3 i hi
    obtain ⟨z, vF, e0, hv, hz⟩ := td_thing ht'
    exact ⟨(z, vF), ⟨b, off, ea, hb, fun j hj => (hc j hj).trans (e0 j hj)⟩, hv, hz⟩
  obtain ⟨f, hf⟩ := choose_lt key
  have ev : ∀ i, i < n → tAt ((List.range n).map (fun i => (f i).1)) i = (f i).1 := fun i hi' => by unfold tAt; rw [List.getD_eq_getElem?_getD, List.getElem?_map, List.getElem?_range hi']; rfl
  refine ⟨_, (List.range n).map (fun i => (f i).1), fun i => (f i).2, rfl, ⟨?_, fun i hi => ?_⟩, fun x hx => ?_⟩
  · refine ⟨A, cap, by simp, by simpa using h1, by unfold maxLen at h2; omega, fun i hi => ?_⟩
    have hi' : i < n := by simpa using hi
    obtain ⟨⟨b, off, ea, hb, hc⟩, _⟩ := hf i hi'
    refine ⟨b, off, ea, hb, fun j hj => ?_⟩
    rw [ev i hi']
    exact hc j hj
  · have hi' : i < n := by simpa using hi
    rw [ev i hi']
    exact (hf i hi').2.1
  · obtain ⟨i, hi, rfl⟩ := List.mem_map.1 hx
    exact (hf i (List.mem_range.1 hi)).2.2
theorem take_at {cs : List Value} {k n j : Nat} {v : Value} (h : ((cs.drop k).take n)[j]? = some v) (hj : j < n) : cs[k + j]? = some v := by
  rw [List.getElem?_take_of_lt hj, List.getElem?_drop] at h
  exact h
set_option maxRecDepth 100000 in
/-- the argument -/
theorem open_world {r : Reach} {b0 : Nat} {v : Value} {d : DataW H} {p : List MemPlace} (hv : Value.okWide Try.prog w r b0 31 v) (h : DataW.Trod enc Try.prog w 0 (fun _ => true) true 31 v d p) :
    ∃ (x : WV) (W : PW), v = .agg (cellsW W x) ∧ WorldAt w x W := by
  obtain ⟨cs, rfl, hsz⟩ := okWide_struct Try.underlying31 hv
  obtain ⟨fuel, hf⟩ := h
  have hT : Td H enc w 31 cs.toList := ⟨fuel, _, by simpa [Value.cells] using hf⟩
  obtain ⟨hl, hF⟩ := td_struct Try.underlying31 hT
  obtain ⟨vL, L, fs, e0, hL, hN⟩ := td_things Try.underlying24 (hF 0 _ rfl)
  obtain ⟨vD, dead, e1, hD⟩ := td_bools Try.underlying25 (hF 1 _ rfl)
  obtain ⟨last, e2, hlast⟩ := td_int Try.underlying3 (hF 2 _ rfl)
  obtain ⟨hl2, hR⟩ := td_struct Try.underlying29 (hF 3 _ rfl)
  obtain ⟨proc, r0, n0⟩ := td_int Try.underlying3 (hR 0 _ rfl)
  obtain ⟨frame, r1, n1⟩ := td_int Try.underlying3 (hR 1 _ rfl)
  obtain ⟨vRe, ready, r2, hre, n2⟩ := td_ints Try.underlying22 (hR 2 _ rfl)
  obtain ⟨vWa, wait, r3, hwa, n3⟩ := td_waits Try.underlying26 (hR 3 _ rfl)
  obtain ⟨vDu, due, r4, hdu, n4⟩ := td_ints Try.underlying22 (hR 4 _ rfl)
  obtain ⟨out, r5, n5⟩ := td_str Try.underlying9 (hR 5 _ rfl)
  obtain ⟨inp, r6, n6⟩ := td_str Try.underlying9 (hR 6 _ rfl)
  obtain ⟨how, r7, n7⟩ := td_int Try.underlying3 (hR 7 _ rfl)
  obtain ⟨exit, r8, n8⟩ := td_int Try.underlying3 (hR 8 _ rfl)
  obtain ⟨vSn, snaps, r9, hsn, n9⟩ := td_strs Try.underlying27 (hR 9 _ rfl)
  refine ⟨⟨vL, fs, vD, vRe, vWa, vDu, vSn⟩, ⟨L, dead, last, ⟨proc, frame, ready, wait, due, out, inp, how, exit, snaps⟩⟩, ?_, ⟨hL, hD, hre, hwa, hdu, hsn, ⟨hlast, n0, n1, n7, n8, n5, n6, n2, n4, n3, n9, hN⟩⟩⟩
  have c0 := take1 (by kernel_rfl) e0
  have c1 := take1 (by kernel_rfl) e1
  have c2 := take1 (by kernel_rfl) e2
  have hc10 : Try.prog.cellsOf 29 = 10 := by kernel_rfl
  have hc13 : Try.prog.cellsOf 31 = 13 := by kernel_rfl
  have g : ∀ {j : Nat} {u : Value}, j < 10 → ∀ {n : Nat}, n = 1 → (((cs.toList.drop 3).take (Try.prog.cellsOf 29)).drop j).take n = [u] → cs.toList[3 + j]? = some u := fun {j u} hj {n} hn hq => take_at (take1 hn hq) (by rw [hc10]; exact hj)
  have d0 := g (j := 0) (by omega) (by kernel_rfl) r0
  have d1 := g (j := 1) (by omega) (by kernel_rfl) r1
  have d2 := g (j := 2) (by omega) (by kernel_rfl) r2
  have d3 := g (j := 3) (by omega) (by kernel_rfl) r3
  have d4 := g (j := 4) (by omega) (by kernel_rfl) r4
  have d5 := g (j := 5) (by omega) (by kernel_rfl) r5
  have d6 := g (j := 6) (by omega) (by kernel_rfl) r6
  have d7 := g (j := 7) (by omega) (by kernel_rfl) r7
  have d8 := g (j := 8) (by omega) (by kernel_rfl) r8
  have d9 := g (j := 9) (by omega) (by kernel_rfl) r9
  have hs : cs.size = 13 := hsz.trans hc13
  congr 1
  apply Array.ext_getElem?
  intro i
  rw [← Array.getElem?_toList]
  by_cases hi : i < 13
  · rcases (show i = 0 ∨ i = 1 ∨ i = 2 ∨ i = 3 ∨ i = 4 ∨ i = 5 ∨ i = 6 ∨ i = 7 ∨ i = 8 ∨ i = 9 ∨ i = 10 ∨ i = 11 ∨ i = 12 by omega) with rfl | rfl | rfl | rfl | rfl | rfl | rfl | rfl | rfl | rfl | rfl | rfl | rfl
    · exact c0
    · exact c1
    · exact c2
    · exact d0
    · exact d1
    · exact d2
    · exact d3
    · exact d4
    · exact d5
    · exact d6
    · exact d7
    · exact d8
    · exact d9
  · rw [List.getElem?_eq_none (by simpa [hs] using hi), Array.getElem?_eq_none (by simp [cellsW]; omega)]
end
end Go.Proofs.Ytadhkmplhgcgkaa.World
