/-
  Add4, Nums, as one text (a claim has at most 60 files).
-/
import Derived.Test.YtadhkmplhgcgkaaMb31
import Derived.Test.YtadhkmplhgcgkaaMb02
namespace Go.Proofs.Ytadhkmplhgcgkaa.World
open Go.RowKit Go.Proofs.Ytadhkmplhgcgkaa.Plain
set_option linter.unusedVariables false
attribute [local go_sem ↓] Go.wp_at_zero Go.wp_at_succ

structure BAt (w : World) (lo b : Nat) (W : PW) (x : WV) : Prop where
  blk : Blk w b 34 (cellsW W x)
  bu : Built w lo W x
theorem BAt.ext {w w' : World} {lo b : Nat} {W : PW} {x : WV} (h : BAt w lo b W x) (e : Ext w w') : BAt w' lo b W x := ⟨h.blk.ext e, h.bu.ext e⟩
def AddPost0 (w : World) (lo b : Nat) (W : PW) (x : WV) (c f : Int) (F : List PV) (B : ByteArray) (w' : World) : Prop :=
  ∃ x', BAt w' lo b (W.add c f F B) x' ∧ Keep (fun j => j = b ∨ x.L.ownBlock = some j) w w'
theorem BAt.grow {w w1 w3 : World} {lo b n gg c9 cp : Nat} {W : PW} {A : Option Addr} {fs : Nat → Value} {vF vD vRe vWa vDu vSn : Value} {F : List PV} {c f : Int} {B : ByteArray} {ob : Obj} (h : BAt w lo b W ⟨.slice A n cp, fs, vD, vRe, vWa, vDu, vSn⟩) (hn : W.L.length = n) (K1 : Keep (· = b) w w1)
    (b1 : Blk w1 b 34 (cellsW { W with last := W.last + 1 } ⟨.slice A n cp, fs, vD, vRe, vWa, vDu, vSn⟩)) (hF : ValsAt w vF F) (hy : Typ w vF 37) (g : (w1.alloc ob).grownBy w3 (Value.slice A n cp).ownBlock)
    (o3 : w3.ownsRow lo 57 6 (.slice (some ⟨gg, 0, none⟩) (n + 1) c9) (n + 1) (flat n 6 (cL W.L fs) ++ [.int .i64 c, .int .i64 f, .int .i64 (W.last + 1), .bool false, vF, .string B])) :
    BAt (w3.setCell ⟨b, 0, none⟩ (.slice (some ⟨gg, 0, none⟩) (n + 1) c9)) lo b (W.add c f F B) ⟨.slice (some ⟨gg, 0, none⟩) (n + 1) c9, fun i => if i = n then vF else fs i, vD, vRe, vWa, vDu, vSn⟩ ∧
      Keep (fun j => j = b ∨ (Value.slice A n cp).ownBlock = some j) w (w3.setCell ⟨b, 0, none⟩ (.slice (some ⟨gg, 0, none⟩) (n + 1) c9)) := by
  have L1 : Own w1 lo 57 (.slice A n cp) W.L.length 6 (cL W.L fs) := h.bu.L.kt1 h.blk K1 (by decide)
  have kp := grow_keep g
  have kt := grow_kt L1 g
  have far : ¬ (Value.slice A n cp).ownBlock = some b := fun e => by
    obtain ⟨_, cs, hc⟩ := L1.block e
    exact b1.ne hc (by decide) rfl
  have b3 := b1.keep kp far
  have kw : Keep (· = b) w3 (w3.setCell ⟨b, 0, none⟩ (.slice (some ⟨gg, 0, none⟩) (n + 1) c9)) := (Keep.refl (· = b) w3).setCell (p := ⟨b, 0, none⟩) rfl _
  have kt1 : KT [34] w w1 := K1.mono (fun j hj => ⟨_, _, List.mem_singleton_self _, hj ▸ h.blk⟩)
  have ktw : KT [34] w3 (w3.setCell ⟨b, 0, none⟩ (.slice (some ⟨gg, 0, none⟩) (n + 1) c9)) := kw.mono (fun j hj => ⟨_, _, List.mem_singleton_self _, hj ▸ b3⟩)
  have vals : ∀ (u : Value) (G : List PV), ValsAt w u G → Typ w u 37 → ValsAt (w3.setCell ⟨b, 0, none⟩ (.slice (some ⟨gg, 0, none⟩) (n + 1) c9)) u G ∧ Typ (w3.setCell ⟨b, 0, none⟩ (.slice (some ⟨gg, 0, none⟩) (n + 1) c9)) u 37 := fun u G hv hy => by
    have v1 := Row.kt hv hy kt1 (by decide)
    have y1 := hy.kt kt1 (by decide)
    exact ⟨Row.kt (Row.kt v1 y1 kt (by decide)) (y1.kt kt (by decide)) ktw (by decide), (y1.kt kt (by decide)).kt ktw (by decide)⟩
  have ow := own_more (L := W.L) (fs := fs) (t := ⟨c, f, W.last + 1, false, F, B⟩) hn o3
  have b4 := b3.set 0 (.slice (some ⟨gg, 0, none⟩) (n + 1) c9)
  simp only [cellsW, List.setIfInBounds_toArray, List.set_cons_zero] at b4
  have hlen : (W.add c f F B).L.length = n + 1 := by unfold PW.add; simp [hn]
  have T : ∀ i, i < n → tAt (W.add c f F B).L i = tAt W.L i := fun i hi => by show tAt (W.L ++ [_]) i = _; rw [MS.tAt_app, if_pos (by omega)]
  have TN : tAt (W.add c f F B).L n = ⟨c, f, W.last + 1, false, F, B⟩ := by show tAt (W.L ++ [_]) _ = _; rw [MS.tAt_app, if_neg (by omega), if_pos hn.symm]
  refine ⟨⟨b4, ow.kt1 b3 kw (by decide), fun i hi => ?_, fun i hi => ?_, h.bu.bare, h.bu.plain⟩, ?_⟩
  · rw [hlen] at hi
    by_cases e : i = n
    · subst e
      show ValsAt _ (if i = i then vF else fs i) _
      rw [if_pos rfl, TN]
      exact (vals _ _ hF hy).1
    · show ValsAt _ (if i = n then vF else fs i) _
      rw [if_neg e, T i (by omega)]
      exact (vals _ _ (h.bu.fs i (by omega)) (h.bu.fsT i (by omega))).1
  · rw [hlen] at hi
    by_cases e : i = n
    · subst e
      show Typ _ (if i = i then vF else fs i) _
      rw [if_pos rfl]
      exact (vals _ _ hF hy).2
    · show Typ _ (if i = n then vF else fs i) _
      rw [if_neg e]
      exact (vals _ _ (h.bu.fs i (by omega)) (h.bu.fsT i (by omega))).2
  · exact ((K1.mono (fun j hj => .inl hj)).trans (kp.mono (fun j hj => .inr hj))).trans (kw.mono (fun j hj => .inl hj))
set_option maxRecDepth 100000 in
set_option maxHeartbeats 2000000 in
theorem badd {w : World} {lo b : Nat} {W : PW} {x : WV} {vF : Value} {F : List PV} (h : BAt w lo b W x) (hlo : lo ≤ w.heap.size) (hF : ValsAt w vF F) (hy : Typ w vF 37) (c f : Int) (B : ByteArray) (hn : W.L.length ≤ 100000) (hl : -100000 ≤ W.last ∧ W.last ≤ 100000) :
    Calls Try.prog 9 #[.pointer (some ⟨b, 0, none⟩), .int .i64 c, .int .i64 f, vF, .string B] w fun e w' => e = .returned (.int .i64 W.L.length) ∧ AddPost0 w lo b W x c f F B w' := by
  obtain ⟨iT, iT1, iT2, iT3, iT4⟩ := info_parts infoT
  obtain ⟨vL, fs, vD, vRe, vWa, vDu, vSn⟩ := x
  obtain ⟨h1, h2, h3, h4, h5⟩ := h.bu.bare
  simp only at h1 h2 h3 h4 h5
  subst h1 h2 h3 h4 h5
  obtain ⟨A, cp, hA⟩ := h.bu.L.form
  have hA : vL = .slice A W.L.length cp := hA
  subst hA
  obtain ⟨Af, cf, rfl, _, _⟩ := Row.form hF
  obtain ⟨q1, q2, q3⟩ := h.blk.rules
  unfold cellsW at q1
  have HH := Lib.hid h
  have HF := Lib.hid hF
  have HY := Lib.hid hy
  have l1 := hl.1
  have l2 := hl.2
  clear h hF hy hl
  generalize hnf : F.length = nf at *
  go_enter Try.func9, Try.ntmps9
  go_upto_region 2 with (fail)
  refine wp_name (fun w1 hW => ?_)
  have b1 : Blk w1 b 34 (cellsW { W with last := W.last + 1 } ⟨.slice A W.L.length cp, fs, .slice none 0 0, .slice none 0 0, .slice none 0 0, .slice none 0 0, .slice none 0 0⟩) := by
    rw [hW]; exact HH.out.blk.set 2 _
  have K1 : Keep (· = b) w w1 := by rw [hW]; exact (Keep.refl (· = b) w).setCell (p := ⟨b, 2, none⟩) rfl _
  have s6 : ∀ u ∈ [Value.int .i64 c, .int .i64 f, .int .i64 (W.last + 1), .bool false, .slice Af nf cf, .string B], u.oneCell' = true := six_one ⟨c, f, W.last + 1, false, F, B⟩ (.slice Af nf cf) rfl
  have O1 : Hid (w1.drew.ownsRow lo 57 6 (.slice A W.L.length cp) W.L.length (flat W.L.length 6 (cL W.L fs))) := Lib.hid (HH.out.bu.L.kt1 HH.out.blk K1.drew (by decide))
  have FAR : Hid (some b ≠ (Value.slice A W.L.length cp).ownBlock) := Lib.hid (fun e => by
    obtain ⟨_, cs, hc⟩ := HH.out.bu.L.block e.symm
    exact HH.out.blk.ne hc (by decide) rfl)
  have K1H := Lib.hid K1
  have b1' := b1
  unfold cellsW at b1'
  have B1 := Lib.hid b1'
  clear b1'
  have lo1 : lo ≤ w1.heap.size := by have := K1.size; omega
  have lb1 := b1.lt
  obtain ⟨r1, r2, r3⟩ := b1.rules
  unfold cellsW at r1
  clear hW K1 b1 q1 q2 q3
  have own := Lib.hid (fun (w3 : World) gg c9 o3 => @own_more w3 lo W.L.length gg c9 (.slice Af nf cf) W.L fs ⟨c, f, W.last + 1, false, F, B⟩ rfl o3)
  clear hA
  generalize hk : W.L.length = n at *
  generalize hla : W.last + 1 = la at *
  go_region_law (refine step_append_lies _ (by rfl) _ _ _ (by rfl) lo 57 iT (.agg #[.int .i64 0, .int .i64 0, .int .i64 0, .bool false, .slice none 0 0, .string ByteArray.empty]) 6 72 Try.underlying24 iT1 iT2 iT3 iT4 rfl (by decide) _ _ _ (by rfl) (World.ownsRow.alloc O1.out _) ⟨w1.heap.size, 0, none⟩ 1 1 [.int .i64 c, .int .i64 f, .int .i64 la, .bool false, .slice Af nf cf, .string B] (by rfl) (by rfl) (World.news_of_block (heap_alloc_new w1.drew _)) s6 (by omega) (by unfold maxLen; omega) (by omega) (by simp; omega) (w1.heap.size + 1) (by simp) ?_; intro gg c9 w3 o3 g3 hat hlt3; have B3 : Blk w3 b _ _ := (g3.block b (by simp; omega) FAR.out).trans (B1.out.drew.alloc _); obtain ⟨r1, r2, r3⟩ := B3.rules)
  all_goals
    have N := HH.out.grow (c := c) (f := f) (B := B) hk K1H.out (by have q := B1.out; rw [← hla] at q; exact q) HF.out HY.out (ob := .cells #[.int .i64 c, .int .i64 f, .int .i64 la, .bool false, .slice Af nf cf, .string B] 57) ⟨g3.os, g3.tape, g3.output, g3.size, g3.block⟩ (by rw [hla]; exact o3)
    have P := Lib.hid N
    clear N B3 r1 r2 r3 o3 g3 hat hlt3
    refine then_name (fun W3 hW3 => ?_)
    rw [← hW3] at P
    clear hW3
    obtain ⟨r1, r2, r3⟩ := P.out.1.blk.rules
    unfold cellsW at r1
    go_wp2_with fail
    go_ret
    exact ⟨by simp, _, P.out.1, P.out.2⟩
end Go.Proofs.Ytadhkmplhgcgkaa.World
namespace Go.Proofs.Ytadhkmplhgcgkaa.World
open Go.RowKit Go.Proofs.Ytadhkmplhgcgkaa.Plain
set_option linter.unusedVariables false
theorem shape_of {n : Nat} {t : PT} (h : shapeB n t = true) : (t.fmt = 1 ∨ t.fmt = 2 ∨ t.fmt = 3) ∧ (t.fmt ≠ 3 → t.B.size = 0) ∧ (t.fmt = 3 → t.F = []) ∧ t.F.length ≤ 60 ∧ t.B.size ≤ 200 ∧ ∀ j, j < t.F.length → fldB n (vAt t.F j) = true := by
  unfold shapeB at h
  by_cases h3 : t.fmt = 3
  · rw [if_pos h3, Bool.and_eq_true] at h
    have h1 := of_decide_eq_true h.1
    have h2 := of_decide_eq_true h.2
    exact ⟨.inr (.inr h3), fun e => absurd h3 e, fun _ => List.eq_nil_of_length_eq_zero h1, by omega, h2, fun j hj => by omega⟩
  · rw [if_neg h3] at h
    by_cases h1 : t.fmt = 1 ∨ t.fmt = 2
    · rw [if_pos h1, Bool.and_eq_true, Bool.and_eq_true] at h
      have g1 := of_decide_eq_true h.1
      have g2 := of_decide_eq_true h.2.1
      exact ⟨h1.imp id .inl, fun _ => g1, fun e => absurd e h3, g2, by omega, (allTo_iff _ _).1 h.2.2⟩
    · rw [if_neg h1] at h; cases h
theorem nums_of_check {W : PW} (h : checkB W = true) : Nums W := by
  unfold checkB at h
  simp only [Bool.and_eq_true, decide_eq_true_eq] at h
  obtain ⟨⟨n1, n2⟩, _, h3, _, h5⟩ := h
  unfold thingsB at h3
  simp only [Bool.and_eq_true, decide_eq_true_eq] at h3
  obtain ⟨t1, t2, t3⟩ := h3
  unfold regsB at h5
  simp only [Bool.and_eq_true, Bool.or_eq_true, decide_eq_true_eq] at h5
  obtain ⟨r1, r2, r3, r4, _, r6, r7, r8⟩ := h5
  have th : ∀ x, thereB W x = true → 0 ≤ x ∧ x < W.L.length := fun x hx => by
    unfold thereB liveB at hx
    simp only [Bool.and_eq_true] at hx
    exact of_decide_eq_true hx.2.1
  have md : ∀ {α : Type} {l : List α} {x : α} (d : α), x ∈ l → ∃ i, i < l.length ∧ l.getD i d = x := fun d hx => by
    obtain ⟨i, hi, e⟩ := List.getElem_of_mem hx
    exact ⟨i, hi, by rw [List.getD_eq_getElem?_getD, List.getElem?_eq_getElem hi]; exact e⟩
  have tl : ∀ l : List Int, thereL W l = true → ∀ y ∈ l, in64 y := fun l hl y hy => by
    obtain ⟨i, hi, e⟩ := md 0 hy
    have q := (allTo_iff _ _).1 hl i hi
    rw [e] at q
    have := th _ q
    exact ⟨by omega, by omega⟩
  have last0 : -1 ≤ W.last := by
    have o := (allTo_iff _ _).1 t1 0 (by omega)
    have hh : ∀ i, i ≤ W.L.length → 0 ≤ prevH W.L i := by
      intro i
      induction i with
      | zero => intro _; exact Int.le_refl _
      | succ i ih =>
        intro hi
        have o := (allTo_iff _ _).1 t1 i (by omega)
        unfold oneB at o
        simp only [Bool.and_eq_true, decide_eq_true_eq] at o
        have := ih (by omega)
        show 0 ≤ (tAt W.L i).hash
        omega
    have := hh W.L.length (Nat.le_refl _)
    omega
  refine ⟨⟨by omega, by omega⟩, ?_, ?_, ⟨by omega, by omega⟩, ⟨by omega, by omega⟩, by unfold maxLen; omega, by unfold maxLen; omega, tl _ r3, tl _ r4, fun x hx => ?_, fun s hs => ?_, fun t ht => ?_⟩
  · rcases r1 with e | e
    · rw [e]; exact ⟨by omega, by omega⟩
    · have := th _ e; exact ⟨by omega, by omega⟩
  · rcases r2 with e | e
    · rw [e]; exact ⟨by omega, by omega⟩
    · have := th _ e; exact ⟨by omega, by omega⟩
  · obtain ⟨i, hi, e⟩ := md (0, 0) hx
    have q := (allTo_iff _ _).1 r6 i hi
    have e : wAt W.R.wait i = x := e
    rw [e, Bool.and_eq_true] at q
    have a := th _ q.1
    have b := th _ q.2
    exact ⟨⟨by omega, by omega⟩, ⟨by omega, by omega⟩⟩
  · obtain ⟨i, hi, e⟩ := md ByteArray.empty hs
    have q := of_decide_eq_true ((allTo_iff _ _).1 r8 i hi)
    have e : sAt W.R.snaps i = s := e
    rw [e] at q
    unfold maxLen; omega
  · obtain ⟨i, hi, e⟩ := md dT ht
    have e : tAt W.L i = t := e
    have o := (allTo_iff _ _).1 t1 i hi
    unfold oneB thingB at o
    simp only [Bool.and_eq_true, decide_eq_true_eq] at o
    rw [e] at o
    obtain ⟨o1, o2, o3, o4, _⟩ := o
    obtain ⟨s1, s2, s3, s4, s5, s6⟩ := shape_of o4
    have hp : 0 ≤ prevH W.L i := by
      cases i with
      | zero => exact Int.le_refl _
      | succ i =>
        have hh : ∀ j, j ≤ W.L.length → 0 ≤ prevH W.L j := by
          intro j
          induction j with
          | zero => intro _; exact Int.le_refl _
          | succ j ih =>
            intro hj
            have o := (allTo_iff _ _).1 t1 j (by omega)
            unfold oneB at o
            simp only [Bool.and_eq_true, decide_eq_true_eq] at o
            have := ih (by omega)
            show 0 ≤ (tAt W.L j).hash
            omega
        exact hh _ (by omega)
    refine ⟨⟨by omega, by omega⟩, ?_, ⟨by omega, by omega⟩, by unfold maxLen; omega, fun v hv => ?_⟩
    · rcases s1 with a | a | a <;> rw [a] <;> exact ⟨by omega, by omega⟩
    · obtain ⟨j, hj, ej⟩ := md dV hv
      have q := s6 j hj
      have ej : vAt t.F j = v := ej
      rw [ej] at q
      unfold fldB at q
      split at q
      · have := of_decide_eq_true q; exact ⟨by omega, by omega⟩
      · have := fits_of q; exact ⟨by omega, by omega⟩
end Go.Proofs.Ytadhkmplhgcgkaa.World
