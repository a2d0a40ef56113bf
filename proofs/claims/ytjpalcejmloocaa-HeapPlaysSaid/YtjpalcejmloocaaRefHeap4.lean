/-
  Chapter 5's reference (colloquyref05): what turns an object: SetField, SetByte, SetClass, SetMark.
-/
import Derived.Test.YtjpalcejmloocaaRefHeap3
namespace Go.Proofs.Ytjpalcejmloocaa.RefHeap
open Go.RowKit Go.Proofs.Ytjpalcejmloocaa.Plain Go.Proofs.Ytjpalcejmloocaa.Free Go.Proofs.Ytjpalcejmloocaa.Heap Go.Proofs.Ytjpalcejmloocaa.RefFree
set_option linter.unusedVariables false
section
variable {w w' : World} {h f ib base n : Nat} {vL : Value} {Q A B : List QO} {q : QO} {is : List Bool} {at_ : Int}
/-- what Get answers of an object -/
theorem HAt.got (H : HAt w h f ib base n vL (A ++ q :: B) is) (hq : (q.o.k : Int) + 1 = at_) (ha : ∀ a ∈ A, (a.o.k : Int) + 1 ≠ at_) : ∃ AF cF AB cB, q.vF = .slice AF q.o.F.length cF ∧ q.vB = .slice AB q.o.B.length cB ∧ GotO w h at_ ⟨(q.o.k : Int) + 1, 3 + (q.o.W : Int), q.o.fmt, q.o.cls, q.o.hash, q.o.col, q.o.fin, AF, q.o.F.length, cF, AB, q.o.B.length, cB, true⟩ := by
  obtain ⟨AF, cF, eF, _, _⟩ := own_form (H.fs q (by simp))
  obtain ⟨AB, cB, eB, _, _⟩ := own_form (H.bs q (by simp))
  refine ⟨AF, cF, AB, cB, eF, eB, fun W x => ?_⟩
  have g := get_yes (H.ext x) at_ hq ha
  unfold aggO at g
  rw [eF, eB] at g
  exact g
theorem HAt.gotno (H : HAt w h f ib base n vL Q is) (ha : ∀ a ∈ Q, (a.o.k : Int) + 1 ≠ at_) : GotO w h at_ ⟨0, 0, 0, 0, -1, 0, false, none, 0, 0, none, 0, 0, false⟩ := fun W x => get_no (H.ext x) at_ ha
theorem rowO_set (A B : List QO) (q q' : QO) (j : Nat) (hj : j < 9) (u : Value) (hq : (cellsO q).set j u = cellsO q') : (rowO (A ++ q :: B)).set (A.length * 9 + j) u = rowO (A ++ q' :: B) := by
  rw [rowO_app, rowO_app, rowO_cons, rowO_cons, List.set_append_right _ _ (by rw [rowO_len]; omega), rowO_len, show A.length * 9 + j - A.length * 9 = j by omega, List.set_append_left _ _ (by show j < 9; exact hj), hq]
/-- an object's own cell is turned -/
theorem HAt.cell (H : HAt w h f ib base n vL (A ++ q :: B) is) {g cap : Nat} (hv : vL = .slice (some ⟨g, 0, none⟩) (A ++ q :: B).length cap) (j : Nat) (hj : j < 9) (u : Value) (q' : QO) (hq : (cellsO q).set j u = cellsO q') (hF : q'.vF = q.vF ∧ q'.o.F = q.o.F) (hB : q'.vB = q.vB ∧ q'.o.B = q.o.B) : HAt (w.setCell ⟨g, A.length * 9 + j, none⟩ u) h f ib base n vL (A ++ q' :: B) is ∧ RK base w (w.setCell ⟨g, A.length * 9 + j, none⟩ u) := by
  have k : Keep (· = g) w (w.setCell ⟨g, A.length * 9 + j, none⟩ u) := (Keep.refl (· = g) w).setCell (p := ⟨g, A.length * 9 + j, none⟩) rfl u
  have hr := H.row
  obtain ⟨hb, cs, BG⟩ := own_blk hr (g := g) (by rw [hv]; rfl)
  have ok : ∀ {e : TypeId} {sz m : Nat} {v : Value} {xs : List Value}, e ≠ 47 → w.ownsRow base e sz v m xs → (w.setCell ⟨g, A.length * 9 + j, none⟩ u).ownsRow base e sz v m xs := fun he ho => own_keep ho k (fun g' hg hS => by
    obtain ⟨_, cs', b2⟩ := own_blk ho hg
    subst hS
    exact BG.ne b2 (Ne.symm he) rfl)
  have mem : ∀ p ∈ A ++ q' :: B, p = q' ∨ p ∈ A ++ q :: B := by
    intro p hp
    rcases List.mem_append.1 hp with h1 | h1
    · exact .inr (List.mem_append_left _ h1)
    · rcases List.mem_cons.1 h1 with h2 | h2
      · exact .inl h2
      · exact .inr (List.mem_append_right _ (List.mem_cons_of_mem _ h2))
  have pw : ∀ (v : QO → Value), v q' = v q → (A ++ q :: B).Pairwise (fun a b => ∀ k, (v a).ownBlock = some k → (v b).ownBlock ≠ some k) → (A ++ q' :: B).Pairwise (fun a b => ∀ k, (v a).ownBlock = some k → (v b).ownBlock ≠ some k) := by
    intro v hv p
    rw [List.pairwise_append, List.pairwise_cons] at p ⊢
    refine ⟨p.1, ⟨fun b hb => by rw [hv]; exact p.2.1.1 b hb, p.2.1.2⟩, fun a ha b hb => ?_⟩
    rcases List.mem_cons.1 hb with rfl | hb
    · rw [hv]; exact p.2.2 a ha q List.mem_cons_self
    · exact p.2.2 a ha b (List.mem_cons_of_mem _ hb)
  refine ⟨⟨H.blk.keep k (H.blk.ne BG (by decide)), ?_, H.fr.keep k (H.fr.blk.ne BG (by decide)) (H.fr.bs.ne BG (by decide)), fun p hp => ?_, fun p hp => ?_, pw (·.vF) hF.1 H.apF, pw (·.vB) hB.1 H.apB, H.lo, by have := H.few; simp at this ⊢; exact this⟩, RK.one hb BG (by decide) k⟩
  · rw [hv] at hr ⊢
    have s := own_set hr (k := A.length * 9 + j) (by simp; omega) u
    rw [rowO_set A B q q' j hj u hq] at s
    have e : (A ++ q' :: B).length = (A ++ q :: B).length := by simp
    rw [e]
    exact s
  · rcases mem p hp with rfl | h1
    · rw [hF.1, hF.2]; exact ok (by decide) (H.fs q (by simp))
    · exact ok (by decide) (H.fs p h1)
  · rcases mem p hp with rfl | h1
    · rw [hB.1, hB.2]; exact ok (by decide) (H.bs q (by simp))
    · exact ok (by decide) (H.bs p h1)
/-- a cell of an object's fields, or bytes, is turned -/
theorem HAt.inner (H : HAt w h f ib base n vL (A ++ q :: B) is) (o' : PO) (hc : cellsO { q with o := o' } = cellsO q) {g cap m i : Nat} {e0 : TypeId} {v : Value} {xs : List Value} (hv : v = .slice (some ⟨g, 0, none⟩) m cap) (ho : w.ownsRow base e0 1 v m xs) (he : e0 ∈ rts ∧ e0 ≠ 47 ∧ e0 ≠ 4 ∧ e0 ≠ 43) (u : Value)
    (hF : (w.setCell ⟨g, i, none⟩ u).ownsRow base 28 1 q.vF o'.F.length (o'.F.map (Value.int .u32))) (hB : (w.setCell ⟨g, i, none⟩ u).ownsRow base 5 1 q.vB o'.B.length (o'.B.map (Value.int .u8)))
    (hsF : ∀ p ∈ A ++ B, p.vF.ownBlock ≠ some g) (hsB : ∀ p ∈ A ++ B, p.vB.ownBlock ≠ some g) : HAt (w.setCell ⟨g, i, none⟩ u) h f ib base n vL (A ++ { q with o := o' } :: B) is ∧ RK base w (w.setCell ⟨g, i, none⟩ u) := by
  have k : Keep (· = g) w (w.setCell ⟨g, i, none⟩ u) := (Keep.refl (· = g) w).setCell (p := ⟨g, i, none⟩) rfl u
  obtain ⟨hb, cs, BG⟩ := own_blk ho (g := g) (by rw [hv]; rfl)
  have row : rowO (A ++ { q with o := o' } :: B) = rowO (A ++ q :: B) := by rw [rowO_app, rowO_app, rowO_cons, rowO_cons, hc]
  have mem : ∀ p ∈ A ++ { q with o := o' } :: B, p = { q with o := o' } ∨ p ∈ A ++ B := by
    intro p hp
    rcases List.mem_append.1 hp with h1 | h1
    · exact .inr (List.mem_append_left _ h1)
    · rcases List.mem_cons.1 h1 with h2 | h2
      · exact .inl h2
      · exact .inr (List.mem_append_right _ h2)
  have sub : ∀ p ∈ A ++ B, p ∈ A ++ q :: B := by
    intro p hp
    rcases List.mem_append.1 hp with h1 | h1
    · exact List.mem_append_left _ h1
    · exact List.mem_append_right _ (List.mem_cons_of_mem _ h1)
  have pw : ∀ (v : QO → Value), v { q with o := o' } = v q → (A ++ q :: B).Pairwise (fun a b => ∀ k, (v a).ownBlock = some k → (v b).ownBlock ≠ some k) → (A ++ { q with o := o' } :: B).Pairwise (fun a b => ∀ k, (v a).ownBlock = some k → (v b).ownBlock ≠ some k) := by
    intro v hv p
    rw [List.pairwise_append, List.pairwise_cons] at p ⊢
    refine ⟨p.1, ⟨fun b hb => by rw [hv]; exact p.2.1.1 b hb, p.2.1.2⟩, fun a ha b hb => ?_⟩
    rcases List.mem_cons.1 hb with rfl | hb
    · rw [hv]; exact p.2.2 a ha q List.mem_cons_self
    · exact p.2.2 a ha b (List.mem_cons_of_mem _ hb)
  have hrow : (w.setCell ⟨g, i, none⟩ u).ownsRow base 47 9 vL (A ++ { q with o := o' } :: B).length (rowO (A ++ { q with o := o' } :: B)) := by
    rw [row, show (A ++ { q with o := o' } :: B).length = (A ++ q :: B).length by simp]
    refine own_keep H.row k (fun g' hg hS => ?_)
    obtain ⟨_, cs', b2⟩ := own_blk H.row hg
    subst hS
    exact BG.ne b2 he.2.1 rfl
  refine ⟨⟨H.blk.keep k (H.blk.ne BG (Ne.symm he.2.2.2)), hrow, H.fr.keep k (H.fr.blk.ne BG (by rintro rfl; exact absurd he.1 (by decide))) (H.fr.bs.ne BG (Ne.symm he.2.2.1)), fun p hp => ?_, fun p hp => ?_, pw (·.vF) rfl H.apF, pw (·.vB) rfl H.apB, H.lo, by have := H.few; simp at this ⊢; exact this⟩, RK.one hb BG he.1 k⟩
  · rcases mem p hp with rfl | h1
    · exact hF
    · exact own_keep (H.fs p (sub p h1)) k (fun g' hg hS => hsF p h1 (by rw [hg, hS]))
  · rcases mem p hp with rfl | h1
    · exact hB
    · exact own_keep (H.bs p (sub p h1)) k (fun g' hg hS => hsB p h1 (by rw [hg, hS]))
theorem apart_mid {v : QO → Value} (p : (A ++ q :: B).Pairwise (fun a b => ∀ k, (v a).ownBlock = some k → (v b).ownBlock ≠ some k)) {g : Nat} (hg : (v q).ownBlock = some g) : ∀ p ∈ A ++ B, (v p).ownBlock ≠ some g := by
  rw [List.pairwise_append, List.pairwise_cons] at p
  intro a ha
  rcases List.mem_append.1 ha with h1 | h1
  · intro e; exact p.2.2 a h1 q List.mem_cons_self g e hg
  · intro e; exact p.2.1.1 a h1 g hg e
theorem HAt.fieldT (H : HAt w h f ib base n vL (A ++ q :: B) is) {g cap i : Nat} (hv : q.vF = .slice (some ⟨g, 0, none⟩) q.o.F.length cap) (hi : i < q.o.F.length) (y : Int) : HAt (w.setCell ⟨g, i, none⟩ (.int .u32 y)) h f ib base n vL (A ++ { q with o := { q.o with F := q.o.F.set i y } } :: B) is ∧ RK base w (w.setCell ⟨g, i, none⟩ (.int .u32 y)) := by
  have ho := H.fs q (by simp)
  obtain ⟨hb, cs, BG⟩ := own_blk ho (g := g) (by rw [hv]; rfl)
  have k : Keep (· = g) w (w.setCell ⟨g, i, none⟩ (.int .u32 y)) := (Keep.refl (· = g) w).setCell (p := ⟨g, i, none⟩) rfl _
  have apB : ∀ p ∈ A ++ q :: B, p.vB.ownBlock ≠ some g := fun p hp e => by
    obtain ⟨_, cs', b2⟩ := own_blk (H.bs p hp) e
    exact BG.ne b2 (by decide) rfl
  refine H.inner { q.o with F := q.o.F.set i y } rfl hv ho (by decide) _ ?_ ?_ (apart_mid (v := (·.vF)) H.apF (by rw [hv]; rfl)) (fun p hp => apB p ?_)
  · have ho2 := ho
    rw [hv] at ho2
    have s := own_set ho2 (k := i) (by omega) (.int .u32 y)
    rw [← hv] at s
    simpa [List.map_set] using s
  · exact own_keep (H.bs q (by simp)) k (fun g' hg hS => apB q (by simp) (by rw [hg, hS]))
  · rcases List.mem_append.1 hp with h1 | h1
    · exact List.mem_append_left _ h1
    · exact List.mem_append_right _ (List.mem_cons_of_mem _ h1)
theorem HAt.byteT (H : HAt w h f ib base n vL (A ++ q :: B) is) {g cap i : Nat} (hv : q.vB = .slice (some ⟨g, 0, none⟩) q.o.B.length cap) (hi : i < q.o.B.length) (y : Int) : HAt (w.setCell ⟨g, i, none⟩ (.int .u8 y)) h f ib base n vL (A ++ { q with o := { q.o with B := q.o.B.set i y } } :: B) is ∧ RK base w (w.setCell ⟨g, i, none⟩ (.int .u8 y)) := by
  have ho := H.bs q (by simp)
  obtain ⟨hb, cs, BG⟩ := own_blk ho (g := g) (by rw [hv]; rfl)
  have k : Keep (· = g) w (w.setCell ⟨g, i, none⟩ (.int .u8 y)) := (Keep.refl (· = g) w).setCell (p := ⟨g, i, none⟩) rfl _
  have apF : ∀ p ∈ A ++ q :: B, p.vF.ownBlock ≠ some g := fun p hp e => by
    obtain ⟨_, cs', b2⟩ := own_blk (H.fs p hp) e
    exact BG.ne b2 (by decide) rfl
  refine H.inner { q.o with B := q.o.B.set i y } rfl hv ho (by decide) _ ?_ ?_ (fun p hp => apF p ?_) (apart_mid (v := (·.vB)) H.apB (by rw [hv]; rfl))
  · exact own_keep (H.fs q (by simp)) k (fun g' hg hS => apF q (by simp) (by rw [hg, hS]))
  · have ho2 := ho
    rw [hv] at ho2
    have s := own_set ho2 (k := i) (by omega) (.int .u8 y)
    rw [← hv] at s
    simpa [List.map_set] using s
  · rcases List.mem_append.1 hp with h1 | h1
    · exact List.mem_append_left _ h1
    · exact List.mem_append_right _ (List.mem_cons_of_mem _ h1)
/-! ### contracts -/
theorem rsetf_in (H : HAt w h f ib base n vL (A ++ q :: B) is) (hq : (q.o.k : Int) + 1 = at_) (ha : ∀ a ∈ A, (a.o.k : Int) + 1 ≠ at_) (hl : q.o.F.length ≤ 60) (i : Nat) (hi : i < q.o.F.length) (y : Int) : Calls Try.prog 14 #[.pointer (some ⟨h, 0, none⟩), .int .i64 at_, .int .i64 i, .int .u32 y] w fun e w' => e = .returned (.bool true) ∧ HAt w' h f ib base n vL (A ++ { q with o := { q.o with F := q.o.F.set i y } } :: B) is ∧ RK base w w' := by
  obtain ⟨AF, cF, AB, cB, eF, eB, GT⟩ := H.got hq ha
  obtain ⟨g, cap, hv, hb, hg, h1, h2, hf, hc⟩ := own_cell (H.fs q (by simp)) (by omega)
  have eA : AF = some ⟨g, 0, none⟩ := by rw [eF] at hv; injection hv
  refine (setf_in GT i y (by show q.o.F.length ≤ 1000; omega) hi (.int .u32 (q.o.F.getD i 0)) eA hg (hc i _ (by rw [List.getElem?_map, List.getElem?_eq_getElem hi, List.getD_eq_getElem?_getD, List.getElem?_eq_getElem hi]; rfl)) (hf i)).mono ?_
  rintro e w2 ⟨rfl, w1, x1, x2⟩
  obtain ⟨t1, t2⟩ := (H.ext x1).fieldT hv hi y
  exact ⟨rfl, t1.ext x2, ((RK.of_ext x1).trans t2).trans (RK.of_ext x2)⟩
theorem rsetb_in (H : HAt w h f ib base n vL (A ++ q :: B) is) (hq : (q.o.k : Int) + 1 = at_) (ha : ∀ a ∈ A, (a.o.k : Int) + 1 ≠ at_) (hl : q.o.B.length ≤ 200) (i : Nat) (hi : i < q.o.B.length) (y : Int) : Calls Try.prog 16 #[.pointer (some ⟨h, 0, none⟩), .int .i64 at_, .int .i64 i, .int .i64 y] w fun e w' => e = .returned (.bool true) ∧ HAt w' h f ib base n vL (A ++ { q with o := { q.o with B := q.o.B.set i (y % 256) } } :: B) is ∧ RK base w w' := by
  obtain ⟨AF, cF, AB, cB, eF, eB, GT⟩ := H.got hq ha
  obtain ⟨g, cap, hv, hb, hg, h1, h2, hf, hc⟩ := own_cell (H.bs q (by simp)) (by omega)
  have eA : AB = some ⟨g, 0, none⟩ := by rw [eB] at hv; injection hv
  refine (setb_in GT i y (by show q.o.B.length ≤ 1000; omega) hi (.int .u8 (q.o.B.getD i 0)) eA hg (hc i _ (by rw [List.getElem?_map, List.getElem?_eq_getElem hi, List.getD_eq_getElem?_getD, List.getElem?_eq_getElem hi]; rfl)) (hf i)).mono ?_
  rintro e w2 ⟨rfl, w1, x1, x2⟩
  obtain ⟨t1, t2⟩ := (H.ext x1).byteT hv hi (y % 256)
  exact ⟨rfl, t1.ext x2, ((RK.of_ext x1).trans t2).trans (RK.of_ext x2)⟩
set_option maxRecDepth 100000 in
set_option maxHeartbeats 2000000 in
theorem rsetc_bad {c : Int} (h0 : Hid (∃ r : Int, Calls Try.prog 50 #[.pointer (some ⟨h, 0, none⟩), .int .i64 at_] w (fun e w' => e = .returned (.int .i64 r) ∧ Ext w w') ∧ (r < 0 ∨ c < 0 ∨ 65536 < c))) : Calls Try.prog 18 #[.pointer (some ⟨h, 0, none⟩), .int .i64 at_, .int .i64 c] w fun e w' => e = .returned (.bool false) ∧ Ext w w' := by
  obtain ⟨r, FI, hr⟩ := h0.out
  have FH := Lib.hid FI
  clear FI
  go_enter Try.func18, Try.ntmps18
  go_wp2_with fail
  refine FH.out.mono ?_
  rintro e w1 ⟨rfl, x1⟩
  have X1 := Lib.hid x1
  clear x1
  by_cases d1 : r < 0
  · clear hr
    go_wp2_with fail
    go_ret
    exact ⟨rfl, X1.out⟩
  · by_cases d2 : c < 0
    · clear hr
      go_wp2_with fail
      go_ret
      exact ⟨rfl, X1.out⟩
    · have d3 : 65536 < c := by omega
      clear hr
      go_wp2_with fail
      go_ret
      exact ⟨rfl, X1.out⟩
set_option maxRecDepth 100000 in
set_option maxHeartbeats 2000000 in
theorem rsetc_yes {c : Int} (H : HAt w h f ib base n vL (A ++ q :: B) is) (hq : (q.o.k : Int) + 1 = at_) (ha : ∀ a ∈ A, (a.o.k : Int) + 1 ≠ at_) (c0 : 0 ≤ c) (c1 : c ≤ 65536) : Calls Try.prog 18 #[.pointer (some ⟨h, 0, none⟩), .int .i64 at_, .int .i64 c] w fun e w' => e = .returned (.bool true) ∧ HAt w' h f ib base n vL (A ++ { q with o := { q.o with cls := c } } :: B) is ∧ RK base w w' := by
  have FH := Lib.hid (find_yes H at_ hq ha)
  have HH := Lib.hid H
  have hfew := H.few
  have hlt : A.length < (A ++ q :: B).length := by simp
  have i1 : (A.length : Int) < ((A ++ q :: B).length : Int) := by omega
  have i0 : (0 : Int) ≤ (A.length : Int) := by omega
  clear H hq ha
  go_enter Try.func18, Try.ntmps18
  go_wp2_with fail
  refine FH.out.mono ?_
  rintro e w1 ⟨rfl, x1⟩
  obtain ⟨g, cap, hv, hb, hg, hf, c0', c1', c2', c3', c4', c5', c6', c7', c8'⟩ := (HH.out.ext x1).nine
  obtain ⟨r1, r2, r3⟩ := (HH.out.ext x1).blk.rules
  obtain ⟨t1, t2⟩ := (HH.out.ext x1).cell hv 3 (by omega) (.int .i64 c) { q with o := { q.o with cls := c } } rfl ⟨rfl, rfl⟩ ⟨rfl, rfl⟩
  have T1 := Lib.hid t1
  have T2 := Lib.hid ((RK.of_ext x1).trans t2)
  rw [hv] at r1
  have f3 := hf (A.length * 9 + 3)
  clear t1 t2 x1 FH hf c0' c1' c2' c4' c5' c6' c7' c8'
  generalize (A ++ q :: B).length = lq at *
  generalize A.length = la at *
  go_wp2_with fail
  go_ret
  exact ⟨rfl, T1.out, T2.out⟩
set_option maxRecDepth 100000 in
set_option maxHeartbeats 2000000 in
theorem rsetm_bad {c : Int} {fi : Bool} (h0 : Hid (∃ r : Int, Calls Try.prog 50 #[.pointer (some ⟨h, 0, none⟩), .int .i64 at_] w (fun e w' => e = .returned (.int .i64 r) ∧ Ext w w') ∧ (r < 0 ∨ c < 0 ∨ 2 < c))) : Calls Try.prog 20 #[.pointer (some ⟨h, 0, none⟩), .int .i64 at_, .int .i64 c, .bool fi] w fun e w' => e = .returned (.bool false) ∧ Ext w w' := by
  obtain ⟨r, FI, hr⟩ := h0.out
  have FH := Lib.hid FI
  clear FI
  go_enter Try.func20, Try.ntmps20
  go_wp2_with fail
  refine FH.out.mono ?_
  rintro e w1 ⟨rfl, x1⟩
  have X1 := Lib.hid x1
  clear x1
  by_cases d1 : r < 0
  · clear hr
    go_wp2_with fail
    go_ret
    exact ⟨rfl, X1.out⟩
  · by_cases d2 : c < 0
    · clear hr
      go_wp2_with fail
      go_ret
      exact ⟨rfl, X1.out⟩
    · have d3 : 2 < c := by omega
      clear hr
      go_wp2_with fail
      go_ret
      exact ⟨rfl, X1.out⟩
set_option maxRecDepth 100000 in
set_option maxHeartbeats 4000000 in
theorem rsetm_yes {c : Int} {fi : Bool} (H : HAt w h f ib base n vL (A ++ q :: B) is) (hq : (q.o.k : Int) + 1 = at_) (ha : ∀ a ∈ A, (a.o.k : Int) + 1 ≠ at_) (c0 : 0 ≤ c) (c1 : c ≤ 2) : Calls Try.prog 20 #[.pointer (some ⟨h, 0, none⟩), .int .i64 at_, .int .i64 c, .bool fi] w fun e w' => e = .returned (.bool true) ∧ HAt w' h f ib base n vL (A ++ { q with o := { q.o with col := c, fin := fi } } :: B) is ∧ RK base w w' := by
  have FH := Lib.hid (find_yes H at_ hq ha)
  have HH := Lib.hid H
  have hfew := H.few
  have hlt : A.length < (A ++ q :: B).length := by simp
  have i1 : (A.length : Int) < ((A ++ q :: B).length : Int) := by omega
  have i0 : (0 : Int) ≤ (A.length : Int) := by omega
  clear H hq ha
  go_enter Try.func20, Try.ntmps20
  go_wp2_with fail
  refine FH.out.mono ?_
  rintro e w1 ⟨rfl, x1⟩
  obtain ⟨g, cap, hv, hb, hg, hf, c0', c1', c2', c3', c4', c5', c6', c7', c8'⟩ := (HH.out.ext x1).nine
  obtain ⟨r1, r2, r3⟩ := (HH.out.ext x1).blk.rules
  obtain ⟨t1, t2⟩ := (HH.out.ext x1).cell hv 7 (by omega) (.int .i64 c) { q with o := { q.o with col := c } } rfl ⟨rfl, rfl⟩ ⟨rfl, rfl⟩
  obtain ⟨t3, t4⟩ := t1.cell (q := { q with o := { q.o with col := c } }) (g := g) (cap := cap) (by rw [hv]; simp) 8 (by omega) (.bool fi) { q with o := { q.o with col := c, fin := fi } } rfl ⟨rfl, rfl⟩ ⟨rfl, rfl⟩
  have T1 := Lib.hid (t3.ext (Ext.refl _).drew)
  have T2 := Lib.hid ((((RK.of_ext x1).trans t2).trans t4).trans (RK.of_ext (Ext.refl _).drew))
  rw [hv] at r1
  have f7 := hf (A.length * 9 + 7)
  have f8 := hf (A.length * 9 + 8)
  clear x1 FH hf c0' c1' c2' c3' c4' c5' c6' t1 t2 t3 t4
  generalize (A ++ q :: B).length = lq at *
  generalize A.length = la at *
  go_wp2_with fail
  go_region
  go_wp2_with fail
  go_ret
  exact ⟨rfl, T1.out, T2.out⟩
end
end Go.Proofs.Ytjpalcejmloocaa.RefHeap
