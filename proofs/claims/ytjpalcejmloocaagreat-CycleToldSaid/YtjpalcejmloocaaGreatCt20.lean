/-
  Reach2, as one text (a claim has at most 60 files).
-/
import Derived.Test.YtjpalcejmloocaaGreatCt19
import Derived.Deep.RegionHeld3
import Derived.Deep.DrawnRows
import Derived.Deep.AppendLies
namespace Go.Proofs.YtjpalcejmloocaaGreat.World
open Go.RowKit Go.Proofs.YtjpalcejmloocaaGreat.Plain
set_option linter.unusedVariables false
attribute [local go_sem ↓] Go.wp_at_zero Go.wp_at_succ

/-- a slice of numbers of the call's own -/
def OwnI (w : World) (base : Nat) (v : Value) (zs : List Int) : Prop := w.ownsRow base 3 1 v zs.length (zs.map (Value.int .i64))
theorem OwnI.nil (w : World) (base : Nat) : OwnI w base (.slice none 0 0) [] := World.ownsRow_nil _ _ _ _
theorem flat_one (zs : List Int) : flat zs.length 1 (fun i _ => .int .i64 (zs.getD i 0)) = zs.map (Value.int .i64) := by
  refine List.ext_getElem? fun i => ?_
  rcases Nat.lt_or_ge i zs.length with h | h
  · have := flat_at zs.length 1 (fun i _ => Value.int .i64 (zs.getD i 0)) i 0 h (by omega)
    rw [Nat.mul_one, Nat.add_zero] at this
    rw [this, List.getElem?_map, List.getElem?_eq_getElem h, List.getD_eq_getElem?_getD, List.getElem?_eq_getElem h]; rfl
  · rw [List.getElem?_eq_none (by rw [flat_len]; omega), List.getElem?_eq_none (by simpa using h)]
theorem OwnI.own {w : World} {base : Nat} {v : Value} {zs : List Int} (h : OwnI w base v zs) : Own w base 3 v zs.length 1 (fun i _ => .int .i64 (zs.getD i 0)) := by
  unfold Own; rw [flat_one]; exact h
theorem OwnI.ints {w : World} {base : Nat} {v : Value} {zs : List Int} (h : OwnI w base v zs) : IntsAt w v zs := h.own.row
theorem OwnI.ext {w w' : World} {base : Nat} {v : Value} {zs : List Int} (h : OwnI w base v zs) (x : Ext w w') : OwnI w' base v zs := by
  have := h.own.ext x
  unfold Own at this; rw [flat_one] at this; exact this
theorem OwnI.set {w : World} {base b i : Nat} {v u : Value} {zs : List Int} {T : TypeId} {cs : Array Value} (h : OwnI w base v zs) (hb : Blk w b T cs) (hne : 3 ≠ T) : OwnI (w.setCell ⟨b, i, none⟩ u) base v zs := by
  have := h.own.set (i := i) (u := u) hb hne
  unfold Own at this; rw [flat_one] at this; exact this
/-- what `add` makes of a list -/
def add1 (l : List Int) (x : Int) : List Int := if x ≠ 0 ∧ l.contains x = false then l ++ [x] else l
theorem add1_zero (l : List Int) : add1 l 0 = l := by unfold add1; rw [if_neg]; simp
theorem add1_has {l : List Int} {x : Int} (h : l.contains x = true) : add1 l x = l := by unfold add1; rw [if_neg]; rw [h]; simp
theorem add1_new {l : List Int} {x : Int} (h0 : x ≠ 0) (h : l.contains x = false) : add1 l x = l ++ [x] := by unfold add1; rw [if_pos ⟨h0, h⟩]
theorem infoN : (Tryz.prog.info? 3).map (fun i => (i.zero, i.size, i.bytes)) = some (some (.int .i64 0), 1, 8) := by kernel_rfl
def AddPost (w : World) (b base : Nat) (v : Value) (l : List Int) (w' : World) : Prop :=
  ∃ v', Blk w' b 25 #[v'] ∧ OwnI w' base v' l ∧ Keep (fun k => k = b ∨ v.ownBlock = some k) w w'
set_option maxRecDepth 100000 in
set_option maxHeartbeats 2000000 in
theorem listAdd {w : World} {b base : Nat} {v : Value} {l : List Int} (x : Int) (hb : Blk w b 25 #[v]) (h : OwnI w base v l) (hbase : base ≤ w.heap.size) (hlen : l.length < 1000000) :
    Calls Tryz.prog 114 #[.int .i64 x, .pointer (some ⟨b, 0, none⟩)] w fun e w' => e = .returned (.tuple #[]) ∧ AddPost w b base v (add1 l x) w' := by
  obtain ⟨A, c, rfl⟩ := h.own.form
  obtain ⟨i0, hi, hz0, hz1, hz2⟩ := info_parts infoN
  have far : ∀ k, (Value.slice A l.length c).ownBlock = some k → some b ≠ (Value.slice A l.length c).ownBlock := fun k hk e => by
    obtain ⟨_, cs, hc⟩ := h.own.block (e ▸ rfl : (Value.slice A l.length c).ownBlock = some b)
    exact hb.ne hc (by decide) rfl
  have FAR : Hid (some b ≠ (Value.slice A l.length c).ownBlock) := Lib.hid (fun e => far b e.symm e)
  clear far
  have HB := Lib.hid hb
  have HO := Lib.hid h
  have C : Hid (∀ W, Ext w W → Calls Tryz.prog 115 #[.slice A l.length c, .int .i64 x] W fun e w' => e = .returned (.bool (l.contains x)) ∧ Ext W w') := Lib.hid fun W e => containsInt (h.ints.ext e) x
  have AD := Lib.hid (add1_zero l)
  have AH := Lib.hid (@add1_has l x)
  have AN := Lib.hid (@add1_new l x)
  have hc0 : w.cell? ⟨b, 0, none⟩ = some (.slice A l.length c) := hb.cell 0
  have hf0 : w.frozen? ⟨b, 0, none⟩ = false := hb.frozen 0
  clear h hb
  generalize hn : l.length = n at *
  go_enter Tryz.func114, Tryz.ntmps114
  by_cases hx : x = 0
  · subst hx
    go_wp2
    go_end0
    rw [AD.out]
    exact ⟨rfl, _, HB.out, HO.out, Keep.refl _ _⟩
  · have hx' : (x == 0) = false := beq_eq_false_iff_ne.2 hx
    have AN' := Lib.hid (AN.out hx)
    clear AN
    go_wp2_with fail
    refine (C.out _ (Ext.refl _)).mono ?_
    rintro e w2 ⟨rfl, x2⟩
    have X2 := Lib.hid x2
    have c2 : w2.cell? ⟨b, 0, none⟩ = some (.slice A n c) := (HB.out.ext x2).cell 0
    have f2 : w2.frozen? ⟨b, 0, none⟩ = false := (HB.out.ext x2).frozen 0
    clear x2 hc0 hf0
    cases hc : l.contains x with
    | true =>
      have AH' := Lib.hid (AH.out hc)
      clear AN' AH hc
      go_wp2
      go_end0
      rw [AH'.out]
      exact ⟨rfl, _, HB.out.ext X2.out, HO.out.ext X2.out, Keep.of_ext X2.out _⟩
    | false =>
      have AN'' := Lib.hid (AN'.out hc)
      clear AN' AH hc
      have o2 : w2.ownsRow base 3 1 (.slice A n c) n (l.map (Value.int .i64)) := by have := HO.out.ext X2.out; unfold OwnI at this; rw [hn] at this; exact this
      have O2 := Lib.hid (o2.alloc (.cells #[.int .i64 x] 3))
      have s2 := X2.out.below.size
      have lt2 : b < w2.heap.size := (HB.out.ext X2.out).lt
      clear o2
      go_wp2_with (at_builtin; refine wpList_append_lies _ rfl _ _ _ rfl base 3 i0 (.int .i64 0) 1 8 Tryz.underlying25 hi hz0 hz1 hz2 rfl (by decide) _ _ _ (by rfl) O2.out ⟨w2.heap.size, 0, none⟩ 1 1 [.int .i64 x] (by rfl) (by rfl) (World.news_of_block (heap_alloc_new w2 _)) (by simp [Value.oneCell']) (by omega) (by unfold maxLen; omega) (by omega) (by simp; omega) (w2.heap.size + 1) (by simp) ?_; intro gg cc w3 o3 g3 hat hlt3; have B3 : Hid (Blk w3 b 25 #[.slice A n c]) := Lib.hid ((g3.block b (by simp; omega) FAR.out).trans ((HB.out.ext X2.out).alloc _)); have c3 := B3.out.cell 0; have f3 := B3.out.frozen 0; replace c3 : w3.cell? ⟨b, 0, none⟩ = some (.slice A n c) := c3; have O3 := Lib.hid o3; have G3 := Lib.hid g3; clear o3 g3 hat)
      go_end0
      rw [AN''.out]
      have K3 : Keep (fun k => k = b ∨ (Value.slice A n c).ownBlock = some k) w w3 := ((Keep.of_ext X2.out _).alloc _).trans ⟨G3.out.os, G3.out.tape, G3.out.output, G3.out.size, fun k hk hn => G3.out.block k hk (fun e => hn (.inr e.symm))⟩
      refine ⟨rfl, .slice (some ⟨gg, 0, none⟩) (n + 1) cc, B3.out.set 0 _, ?_, K3.setCell (.inl rfl) _⟩
      refine OwnI.set ?_ B3.out (by decide)
      have := O3.out
      unfold OwnI
      rw [List.length_append, List.map_append, hn]
      exact this
end Go.Proofs.YtjpalcejmloocaaGreat.World
