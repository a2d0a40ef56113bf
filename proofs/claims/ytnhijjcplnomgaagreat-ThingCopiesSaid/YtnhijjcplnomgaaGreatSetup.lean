/-
  A world that may be has numbers that a machine holds; a world that is turned out of one that begins as the first one; Pop of nothing.
-/
import Derived.Test.YtnhijjcplnomgaaGreatFrame6
import Derived.Test.YtnhijjcplnomgaaGreatFrameNew
import Derived.Test.YtnhijjcplnomgaaGreatObjNew
import Derived.Test.YtnhijjcplnomgaaGreatStart
namespace Go.Proofs.YtnhijjcplnomgaaGreat.World
open Go.RowKit Go.Proofs.YtnhijjcplnomgaaGreat.Plain
set_option linter.unusedVariables false
attribute [local go_sem ↓] Go.wp_at_zero Go.wp_at_succ

theorem nums_of_check {W : PW} (h : checkB W = true) : Nums W := by
  unfold checkB at h
  simp only [Bool.and_eq_true, decide_eq_true_eq] at h
  obtain ⟨⟨n1, n2⟩, _, h3, _, h5⟩ := h
  unfold thingsB at h3
  simp only [Bool.and_eq_true, decide_eq_true_eq] at h3
  obtain ⟨t1, t2, t3⟩ := h3
  unfold regsB at h5
  simp only [Bool.and_eq_true, Bool.or_eq_true, decide_eq_true_eq] at h5
  obtain ⟨r1, r2, r3, r4, _, r6, r7, r8⟩ := h5
  have th : ∀ x, thereB W x = true → 0 ≤ x ∧ x < W.L.length := fun x hx => by
    unfold thereB liveB at hx
    simp only [Bool.and_eq_true] at hx
    exact of_decide_eq_true hx.2.1
  have md : ∀ {α : Type} {l : List α} {x : α} (d : α), x ∈ l → ∃ i, i < l.length ∧ l.getD i d = x := fun d hx => by
    obtain ⟨i, hi, e⟩ := List.getElem_of_mem hx
    exact ⟨i, hi, by rw [List.getD_eq_getElem?_getD, List.getElem?_eq_getElem hi]; exact e⟩
  have tl : ∀ l : List Int, thereL W l = true → ∀ y ∈ l, in64 y := fun l hl y hy => by
    obtain ⟨i, hi, e⟩ := md 0 hy
    have q := (allTo_iff _ _).1 hl i hi
    rw [e] at q
    have := th _ q
    exact ⟨by omega, by omega⟩
  have last0 : -1 ≤ W.last := by
    have o := (allTo_iff _ _).1 t1 0 (by omega)
    have hh : ∀ i, i ≤ W.L.length → 0 ≤ prevH W.L i := by
      intro i
      induction i with
      | zero => intro _; exact Int.le_refl _
      | succ i ih =>
        intro hi
        have o := (allTo_iff _ _).1 t1 i (by omega)
        unfold oneB at o
        simp only [Bool.and_eq_true, decide_eq_true_eq] at o
        have := ih (by omega)
        show 0 ≤ (tAt W.L i).hash
        omega
    have := hh W.L.length (Nat.le_refl _)
    omega
  refine ⟨⟨by omega, by omega⟩, ?_, ?_, ⟨by omega, by omega⟩, ⟨by omega, by omega⟩, by unfold maxLen; omega, by unfold maxLen; omega, tl _ r3, tl _ r4, fun x hx => ?_, fun s hs => ?_, fun t ht => ?_⟩
  · rcases r1 with e | e
    · rw [e]; exact ⟨by omega, by omega⟩
    · have := th _ e; exact ⟨by omega, by omega⟩
  · rcases r2 with e | e
    · rw [e]; exact ⟨by omega, by omega⟩
    · have := th _ e; exact ⟨by omega, by omega⟩
  · obtain ⟨i, hi, e⟩ := md (0, 0) hx
    have q := (allTo_iff _ _).1 r6 i hi
    have e : wAt W.R.wait i = x := e
    rw [e, Bool.and_eq_true] at q
    have a := th _ q.1
    have b := th _ q.2
    exact ⟨⟨by omega, by omega⟩, ⟨by omega, by omega⟩⟩
  · obtain ⟨i, hi, e⟩ := md ByteArray.empty hs
    have q := of_decide_eq_true ((allTo_iff _ _).1 r8 i hi)
    have e : sAt W.R.snaps i = s := e
    rw [e] at q
    unfold maxLen; omega
  · obtain ⟨i, hi, e⟩ := md dT ht
    have e : tAt W.L i = t := e
    have o := (allTo_iff _ _).1 t1 i hi
    unfold oneB thingB at o
    simp only [Bool.and_eq_true, decide_eq_true_eq] at o
    rw [e] at o
    obtain ⟨o1, o2, o3, o4, _⟩ := o
    obtain ⟨s1, s2, s3, s4, s5, s6⟩ := shape_of o4
    have hp : 0 ≤ prevH W.L i := by
      cases i with
      | zero => exact Int.le_refl _
      | succ i =>
        have hh : ∀ j, j ≤ W.L.length → 0 ≤ prevH W.L j := by
          intro j
          induction j with
          | zero => intro _; exact Int.le_refl _
          | succ j ih =>
            intro hj
            have o := (allTo_iff _ _).1 t1 j (by omega)
            unfold oneB at o
            simp only [Bool.and_eq_true, decide_eq_true_eq] at o
            have := ih (by omega)
            show 0 ≤ (tAt W.L j).hash
            omega
        exact hh _ (by omega)
    refine ⟨⟨by omega, by omega⟩, ?_, ⟨by omega, by omega⟩, by unfold maxLen; omega, fun v hv => ?_⟩
    · rcases s1 with a | a | a <;> rw [a] <;> exact ⟨by omega, by omega⟩
    · obtain ⟨j, hj, ej⟩ := md dV hv
      have q := s6 j hj
      have ej : vAt t.F j = v := ej
      rw [ej] at q
      unfold fldB at q
      split at q
      · have := of_decide_eq_true q; exact ⟨by omega, by omega⟩
      · have := fits_of q; exact ⟨by omega, by omega⟩
theorem tAt_add (W : PW) (c f : Int) (F : List PV) (B : ByteArray) (i : Nat) (hi : i < W.L.length) : tAt (W.add c f F B).L i = tAt W.L i := by
  show tAt (W.L ++ [_]) i = _
  rw [MS.tAt_app, if_pos hi]
theorem len_add (W : PW) (c f : Int) (F : List PV) (B : ByteArray) : (W.add c f F B).L.length = W.L.length + 1 := by unfold PW.add; simp
theorem new_at (W : PW) (c f : Int) (F : List PV) (B : ByteArray) : tAt (W.add c f F B).L W.L.length = ⟨c, f, W.last + 1, false, F, B⟩ := by
  show tAt (W.L ++ [_]) _ = _
  rw [MS.tAt_app, if_neg (by omega), if_pos rfl]
theorem std_new {W : PW} (hc : checkB W = true) (hL : ∀ i : Nat, i < 23 → tAt W.L i = firstT i) (most : Int) : (newS W most).Std := by
  have wf := newS_wf hc most
  have lo := wf.lo
  refine ⟨wf, rfl, fun i hi => ⟨hL i hi, ?_⟩⟩
  show (decide (0 ≤ (i : Int) ∧ (i : Int) < ((newS W most).L.length : Nat)) && !((List.replicate W.L.length false).getD (i : Int).toNat false)) = true
  have e : (List.replicate W.L.length false).getD (i : Int).toNat false = false := by
    rw [List.getD_eq_getElem?_getD, List.getElem?_replicate]; split <;> rfl
  rw [e, decide_eq_true (by omega)]; rfl
theorem first_at (i : Nat) (h : i < 23) : tAt firstW.L i = firstT i := firstL_at 23 i h
section
variable {w w' w2 : World} {F F' F2 : Nat → Prop} {m : Nat} {S S' : MS} {X : MX}
set_option maxRecDepth 100000 in
set_option maxHeartbeats 1000000 in
/-- nothing is popped -/
theorem fpop_no (h : M w F m S) {id : Int} (hf : S.isFrame id = true) (hz : S.sp id = 0) : Calls Tryz.prog 42 #[.pointer (some ⟨m, 0, none⟩), .int .i64 id] w fun e w' => e = .returned (.tuple #[val dV, .bool false]) ∧ Ext w w' := by
  have C1 := Lib.hid (fun W [x : IsExt w W] => fis (h.ext x.out) id)
  have C3 := Lib.hid (fun W [x : IsExt w W] => mget (h.ext x.out) id 2)
  have hz : (S.get id 2).n = 0 := hz
  rw [hf] at C1
  obtain ⟨v, hv⟩ : ∃ v, v = S.get id 2 := ⟨_, rfl⟩
  rw [← hv] at C3 hz
  obtain ⟨vo, vn⟩ := v
  have hz : vn = 0 := hz
  subst hz
  clear hv h hf
  unfold val dV at *
  go_enter Tryz.func42, Tryz.ntmps42
  go_wp2_with fail
  refine (C3.out _).mono ?_
  rintro e w1 ⟨rfl, x1⟩
  have i1 : IsExt w w1 := ⟨(is_ext w _).trans x1⟩
  have B1 := Lib.hid ((Blk.new w 40 #[.bool false, .int .i64 0]).ext x1)
  clear x1 C3
  go_wp2_with fail
  refine (C1.out w1).mono ?_
  rintro e w2 ⟨rfl, x2⟩
  have i2 : IsExt w w2 := ⟨i1.out.trans x2⟩
  obtain ⟨p1, p2, p3⟩ := (B1.out.ext x2).rules
  clear x2 C1
  go_wp2_with fail
  refine bodyPost_ret (v := .tuple #[.agg #[.bool false, .int .i64 0], .bool false]) (by simp [results, Tryz.results42, go_sem, p1]) rfl ⟨rfl, ?_⟩
  exact (i2.out.setNew (p := ⟨w.heap.size, 0, none⟩) (Nat.le_refl _) _).setNew (p := ⟨w.heap.size, 1, none⟩) (Nat.le_refl _) _
end
end Go.Proofs.YtnhijjcplnomgaaGreat.World
