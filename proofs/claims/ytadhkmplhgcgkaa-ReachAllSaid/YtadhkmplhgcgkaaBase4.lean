/-
  Facts of the texts on memory that stand without package memory (printed by base4.py).
-/
import Derived.Test.YtadhkmplhgcgkaaImage9
import Derived.Test.YtadhkmplhgcgkaaMemPlain
namespace Go.Proofs.Ytadhkmplhgcgkaa.World
open Go.RowKit Go.Proofs.Ytadhkmplhgcgkaa.Plain
set_option linter.unusedVariables false
attribute [go_sem] ext_ext
section
variable {w w' : World}
class IsExt (w w' : World) : Prop where
  out : Ext w w'
instance IsExt.refl (w : World) : IsExt w w := ⟨Ext.refl w⟩
instance IsExt.alloc (w w' : World) (o : Obj) [h : IsExt w w'] : IsExt w (w'.alloc o) := ⟨h.out.alloc o⟩
instance IsExt.drew (w w' : World) [h : IsExt w w'] : IsExt w w'.drew := ⟨h.out.drew⟩
instance IsExt.drewN (w w' : World) (n : Nat) [h : IsExt w w'] : IsExt w (w'.drewN n) := ⟨h.out.drewN n⟩
instance IsExt.ext (w w' : World) (x : More) [h : IsExt w w'] : IsExt w (Plain.ext w' x) := ⟨h.out.ext x⟩
theorem is_ext (w w' : World) [h : IsExt w w'] : Ext w w' := h.out
theorem wp_region_from {P : Program} {id : Nat} {Q : Exit → Act → World → Prop} {a : Act} {w0 w : World} {l : List Oper} (hx : Ext w0 w) (hm : P.follows .mixedOrders = true) (hB : Region.lexB .any l.toArray = true)
    (h : wpQuiet P l.toArray (fun w' => ∃ x, w' = Plain.ext w0 x) (fun a' => ∀ w', (∃ x, w' = Plain.ext w0 x) → Q .normal a' w') l a) : (Code.region id l.toArray true).wp P Q a w :=
  wp_region_quiet (C := fun w' => ∃ x, w' = Plain.ext w0 x) hm hB hx.drew (by simpa using h)
def Typ (w : World) (v : Value) (t : TypeId) : Prop := ∀ k, v.ownBlock = some k → ∃ cs, Blk w k t cs
theorem Typ.ext {v : Value} {t : TypeId} (h : Typ w v t) (x : Ext w w') : Typ w' v t := fun k hk => by obtain ⟨cs, b⟩ := h k hk; exact ⟨cs, b.ext x⟩
def val (v : PV) : Value := .agg #[.bool v.obj, .int .i64 v.n]
theorem Own.far {b : Nat} {e : TypeId} {v : Value} {n sz : Nat} {c : Nat → Nat → Value} {P : Nat → Prop} (h : Own w b e v n sz c) (k : Keep P w w') (hn : ∀ j, v.ownBlock = some j → ¬ P j) : Own w' b e v n sz c := by
  have h : w.ownsRow b e sz v n (flat n sz c) := h
  refine ⟨h.1, ?_⟩
  rcases h.2 with hh | ⟨g, cap, cur, e1, h1, hg, rest⟩
  · exact .inl hh
  · exact .inr ⟨g, cap, cur, e1, h1, Blk.keep (show Blk w g e cur from hg) k (hn g (by rw [e1]; rfl)), rest⟩
theorem Own.congr {b : Nat} {e : TypeId} {v : Value} {n sz : Nat} {c c' : Nat → Nat → Value} (h : Own w b e v n sz c) (hc : ∀ i j, i < n → j < sz → c i j = c' i j) : Own w b e v n sz c' := by
  have h' : w.ownsRow b e sz v n (flat n sz c) := h
  have ef : flat n sz c = flat n sz c' := by
    unfold flat
    refine List.map_congr_left fun q hq => ?_
    have hq : q < n * sz := List.mem_range.1 hq
    have hs : 0 < sz := by
      rcases Nat.eq_zero_or_pos sz with h1 | h1
      · subst h1; omega
      · exact h1
    exact hc _ _ (Nat.div_lt_of_lt_mul (by rw [Nat.mul_comm]; exact hq)) (Nat.mod_lt _ hs)
  rw [ef] at h'
  exact h'
theorem Own.kt1 {b g : Nat} {e t : TypeId} {v : Value} {n sz : Nat} {c : Nat → Nat → Value} {cs : Array Value} (h : Own w b e v n sz c) (hg : Blk w g t cs) (k : Keep (· = g) w w') (hn : e ≠ t) : Own w' b e v n sz c :=
  h.far k (fun j hj hh => by
    obtain ⟨_, cs', hb⟩ := h.block hj
    subst hh
    exact hb.ne hg hn rfl)
theorem Row.far {v : Value} {n sz : Nat} {c : Nat → Nat → Value} {P : Nat → Prop} (h : Row w v n sz c) (k : Keep P w w') (hn : ∀ j, v.ownBlock = some j → ¬ P j) : Row w' v n sz c := by
  obtain ⟨A, cap, e, h1, h2, h3⟩ := h.ex
  refine ⟨A, cap, e, h1, h2, fun i hi => ?_⟩
  obtain ⟨b, off, ea, hb, hc⟩ := h3 i hi
  refine ⟨b, off, ea, Nat.lt_of_lt_of_le hb k.size, fun j hj => ?_⟩
  rw [← hc j hj]
  exact World.cell?_of_block (k.block b hb (hn b (by rw [e, ea]; rfl)))
theorem Typ.kt {v : Value} {t : TypeId} {ts : List TypeId} (h : Typ w v t) (k : KT ts w w') (hn : t ∉ ts) : Typ w' v t := fun j hj => by obtain ⟨cs, b⟩ := h j hj; exact ⟨cs, blk_kt b k hn⟩
theorem Row.kt {v : Value} {n sz : Nat} {c : Nat → Nat → Value} {t : TypeId} {ts : List TypeId} (h : Row w v n sz c) (y : Typ w v t) (k : KT ts w w') (hn : t ∉ ts) : Row w' v n sz c :=
  h.far k (fun j hj => by
    obtain ⟨cs, b⟩ := y j hj
    rintro ⟨t', cs', ht, hb⟩
    by_cases e : t = t'
    · subst e; exact hn ht
    · exact b.ne hb e rfl)
theorem grow_keep {wr w3 : World} {ob : Obj} {v : Value} (g : (wr.alloc ob).grownBy w3 v.ownBlock) : Keep (fun k => v.ownBlock = some k) wr w3 :=
  ((Keep.refl _ wr).alloc ob).trans ⟨g.os, g.tape, g.output, g.size, fun k hk hn => g.block k hk (fun e => hn e.symm)⟩
theorem grow_kt {wr w3 : World} {ob : Obj} {v : Value} {b n sz : Nat} {e : TypeId} {c : Nat → Nat → Value} (h : Own wr b e v n sz c) (g : (wr.alloc ob).grownBy w3 v.ownBlock) : KT [e] wr w3 :=
  (grow_keep g).mono (fun j hj => by obtain ⟨_, cs, hb⟩ := h.block hj; exact ⟨_, _, by simp, hb⟩)
theorem six_one (t : PT) (v : Value) (h : v.oneCell' = true) : ∀ u ∈ [Value.int .i64 t.cls, .int .i64 t.fmt, .int .i64 t.hash, .bool t.fin, v, .string t.B], u.oneCell' = true := by
  intro u hu
  simp only [List.mem_cons, List.not_mem_nil, or_false] at hu
  rcases hu with rfl | rfl | rfl | rfl | rfl | rfl <;> first | exact h | rfl
end
end Go.Proofs.Ytadhkmplhgcgkaa.World
