/-
  Reach3, as one text (a claim has at most 60 files).
-/
import Derived.Test.YtjpalcejmloocaaGreatCt20
namespace Go.Proofs.YtjpalcejmloocaaGreat.World
open Go.RowKit Go.Proofs.YtjpalcejmloocaaGreat.Plain
set_option linter.unusedVariables false
attribute [local go_sem ↓] Go.wp_at_zero Go.wp_at_succ

theorem add1_len (l : List Int) (x : Int) : (add1 l x).length ≤ l.length + 1 := by
  unfold add1; split
  · simp
  · omega
/-- the list under way: box and closure's variable known whole -/
structure LS (w wr : World) (cs : Array Value) (v : Value) (l : List Int) : Prop where
  x : Ext w wr
  b1 : Blk wr w.heap.size 29 cs
  b3 : Blk wr (w.heap.size + 1) 25 #[v]
  own : OwnI wr w.heap.size v l
theorem LS.step {w wr w' : World} {cs : Array Value} {v : Value} {l l' : List Int} (h : LS w wr cs v l) (a : AddPost wr (w.heap.size + 1) w.heap.size v l' w') : ∃ v', LS w w' cs v' l' := by
  obtain ⟨v', b, o, k⟩ := a
  refine ⟨v', ⟨Ext.of_below (Keep.below h.x.below k h.x.below.size (fun i hi hs => ?_)), h.b1.keep k (fun hs => ?_), b, o⟩⟩
  · rcases hs with hs | hs
    · omega
    · have := (h.own.own.block hs).1; omega
  · rcases hs with hs | hs
    · omega
    · obtain ⟨_, c, hc⟩ := h.own.own.block hs
      exact h.b1.ne hc (by decide) rfl
theorem LS.ext {w wr w' : World} {cs : Array Value} {v : Value} {l : List Int} (h : LS w wr cs v l) (x : Ext wr w') : LS w w' cs v l := ⟨h.x.trans x, h.b1.ext x, h.b3.ext x, h.own.ext x⟩
theorem LS.start (w : World) (cs : Array Value) : LS w ((w.alloc (.cells cs 29)).alloc (.cells #[.slice none 0 0] 25)) cs (.slice none 0 0) [] := by
  refine ⟨((Ext.refl w).alloc _).alloc _, (Blk.new w _ _).alloc _, ?_, OwnI.nil _ _⟩
  have h := Blk.new (w.alloc (.cells cs 29)) 25 #[.slice none 0 0]
  have e : (w.alloc (.cells cs 29)).heap.size = w.heap.size + 1 := Array.size_push ..
  rw [e] at h; exact h
/-- what List tells -/
def listOf (R : PR) : List Int := R.due.foldl add1 (R.wait.foldl (fun l p => add1 (add1 l p.1) p.2) (R.ready.foldl add1 (add1 (add1 [] R.proc) R.frame)))
theorem fold_take {α β : Type} (f : β → α → β) (l0 : β) (l : List α) (d : α) (i : Nat) (hi : i < l.length) : (l.take (i + 1)).foldl f l0 = f ((l.take i).foldl f l0) (l.getD i d) := by
  rw [List.take_succ_eq_append_getElem hi, List.foldl_append, List.getD_eq_getElem?_getD, List.getElem?_eq_getElem hi]; rfl
theorem fold_len (l : List Int) : ∀ l0 : List Int, (l.foldl add1 l0).length ≤ l0.length + l.length := by
  induction l with
  | nil => intro l0; simp
  | cons a l ih => intro l0; have := ih (add1 l0 a); have := add1_len l0 a; simp only [List.foldl_cons, List.length_cons]; omega
theorem fold_len2 (l : List (Int × Int)) : ∀ l0 : List Int, (l.foldl (fun l p => add1 (add1 l p.1) p.2) l0).length ≤ l0.length + 2 * l.length := by
  induction l with
  | nil => intro l0; simp
  | cons a l ih => intro l0; have := ih (add1 (add1 l0 a.1) a.2); have := add1_len l0 a.1; have := add1_len (add1 l0 a.1) a.2; simp only [List.foldl_cons, List.length_cons]; omega
def AddC (w : World) : Prop := ∀ (W : World) (cs : Array Value) (v : Value) (l : List Int) (x : Int), LS w W cs v l → l.length < 1000000 →
  Calls Tryz.prog 114 #[.int .i64 x, .pointer (some ⟨w.heap.size + 1, 0, none⟩)] W fun e w' => e = .returned (.tuple #[]) ∧ ∃ v', LS w w' cs v' (add1 l x) ∧ ∀ g cs', Blk W g 96 cs' → Blk w' g 96 cs'
theorem addC (w : World) : AddC w := fun W cs v l x h hl =>
  (listAdd x h.b3 h.own h.x.below.size hl).mono fun e w' ⟨h1, h2⟩ => by
    obtain ⟨v', h3⟩ := h.step h2
    obtain ⟨_, _, _, k⟩ := h2
    refine ⟨h1, v', h3, fun g cs' hg => hg.keep k (fun hs => ?_)⟩
    rcases hs with rfl | hs
    · exact hg.ne h.b3 (by decide) rfl
    · obtain ⟨_, c, hc⟩ := h.own.own.block hs
      exact hg.ne hc (by decide) rfl
set_option maxRecDepth 100000 in
set_option maxHeartbeats 4000000 in
theorem list_ {w : World} {R : PR} {re wa du sn : Value} (hre : IntsAt w re R.ready) (hwa : WaitsAt w wa R.wait) (hdu : IntsAt w du R.due) (hlen : 2 + R.ready.length + 2 * R.wait.length + R.due.length < 1000000) :
    Calls Tryz.prog 93 #[.agg (cellsR R re wa du sn)] w fun e w' => ∃ v, e = .returned v ∧ OwnI w' w.heap.size v (listOf R) ∧ Ext w w' := by
  have HA := Lib.hid (addC w)
  have hk : ∀ (args : Array Value) (W : World), (callFunc 114 args).run Tryz.prog W = .ok (.enter 114 args) W := fun _ _ => by kernel_rfl
  obtain ⟨A1, c1, rfl, _, _⟩ := Row.form hre
  obtain ⟨A2, c2, rfl, _, _⟩ := Row.form hwa
  obtain ⟨A3, c3, rfl, _, _⟩ := Row.form hdu
  have hre : Row w (.slice A1 R.ready.length c1) R.ready.length 1 (fun i _ => .int .i64 (R.ready.getD i 0)) := hre
  have hwa : Row w (.slice A2 R.wait.length c2) R.wait.length 2 (fun i j => cW (wAt R.wait i) j) := hwa
  have hdu : Row w (.slice A3 R.due.length c3) R.due.length 1 (fun i _ => .int .i64 (R.due.getD i 0)) := hdu
  have H1 := Lib.hid hre
  have H2 := Lib.hid hwa
  have H3 := Lib.hid hdu
  clear hre hwa hdu
  unfold listOf
  have F1 := Lib.hid (fold_take add1 (add1 (add1 [] R.proc) R.frame) R.ready 0)
  have N1 := Lib.hid (fun i => fold_len (R.ready.take i) (add1 (add1 [] R.proc) R.frame))
  have E1 : Hid ((R.ready.take R.ready.length).foldl add1 (add1 (add1 [] R.proc) R.frame) = R.ready.foldl add1 (add1 (add1 [] R.proc) R.frame)) := Lib.hid (by rw [List.take_length])
  have Z1 : Hid (add1 (add1 [] R.proc) R.frame = (R.ready.take 0).foldl add1 (add1 (add1 [] R.proc) R.frame)) := Lib.hid rfl
  have F2 := Lib.hid (fold_take (fun l p => add1 (add1 l p.1) p.2) (R.ready.foldl add1 (add1 (add1 [] R.proc) R.frame)) R.wait (0, 0))
  have N2 := Lib.hid (fun i => fold_len2 (R.wait.take i) (R.ready.foldl add1 (add1 (add1 [] R.proc) R.frame)))
  have E2 : Hid ((R.wait.take R.wait.length).foldl (fun l p => add1 (add1 l p.1) p.2) (R.ready.foldl add1 (add1 (add1 [] R.proc) R.frame)) = R.wait.foldl (fun l p => add1 (add1 l p.1) p.2) (R.ready.foldl add1 (add1 (add1 [] R.proc) R.frame))) := Lib.hid (by rw [List.take_length])
  have M2 := Lib.hid (fold_len R.ready (add1 (add1 [] R.proc) R.frame))
  have F3 := Lib.hid (fold_take add1 (R.wait.foldl (fun l p => add1 (add1 l p.1) p.2) (R.ready.foldl add1 (add1 (add1 [] R.proc) R.frame))) R.due 0)
  have N3 := Lib.hid (fun i => fold_len (R.due.take i) (R.wait.foldl (fun l p => add1 (add1 l p.1) p.2) (R.ready.foldl add1 (add1 (add1 [] R.proc) R.frame))))
  have E3 : Hid ((R.due.take R.due.length).foldl add1 (R.wait.foldl (fun l p => add1 (add1 l p.1) p.2) (R.ready.foldl add1 (add1 (add1 [] R.proc) R.frame))) = R.due.foldl add1 (R.wait.foldl (fun l p => add1 (add1 l p.1) p.2) (R.ready.foldl add1 (add1 (add1 [] R.proc) R.frame)))) := Lib.hid (by rw [List.take_length])
  have M3 := Lib.hid (fold_len2 R.wait (R.ready.foldl add1 (add1 (add1 [] R.proc) R.frame)))
  have M1 := Lib.hid (show (add1 (add1 [] R.proc) R.frame).length ≤ 2 from by have := add1_len [] R.proc; have := add1_len (add1 [] R.proc) R.frame; simp at *; omega)
  go_enter Tryz.func93, Tryz.ntmps93
  unfold cellsR
  go_wp2_with fail
  refine (HA.out _ _ _ _ _ (LS.start _ _) (by simp)).mono ?_
  rintro e w2 ⟨rfl, v2, L2, _⟩
  obtain ⟨q2, f2, lt2⟩ := L2.b1.rules
  have LL2 := Lib.hid L2
  clear L2
  go_wp2_with fail
  refine (HA.out _ _ _ _ _ LL2.out (by have := add1_len [] R.proc; simp at *; omega)).mono ?_
  clear LL2 q2 f2 lt2
  rintro e w3 ⟨rfl, v3, L3, _⟩
  obtain ⟨q3, f3, lt3⟩ := L3.b1.rules
  rw [Z1.out] at L3
  have LL3 := Lib.hid L3
  clear L3
  go_wp2_with fail
  go_loopw [23] (fun iv wr => ∃ i : Nat, i ≤ R.ready.length ∧ iv = .int .i64 i ∧ ∃ v, LS w wr (cellsR R (.slice A1 R.ready.length c1) (.slice A2 R.wait.length c2) (.slice A3 R.due.length c3) sn) v ((R.ready.take i).foldl add1 (add1 (add1 [] R.proc) R.frame))) (fun iv _ => R.ready.length - (intOf iv).toNat)
  case atStart => exact ⟨0, Nat.zero_le _, rfl, v3, LL3.out⟩
  case round =>
    obtain ⟨i, hi, rfl, v, L⟩ := hrel
    have LL := Lib.hid L
    clear LL3 q3 f3 lt3
    by_cases hlt : i < R.ready.length
    · obtain ⟨b, off, rfl, hb, hc⟩ := Row.at_ H1.out i hlt
      have c0 : wr.cell? ⟨b, off + i * 1, none⟩ = some (.int .i64 (R.ready.getD i 0)) := (L.x.below.cell (p := ⟨b, off + i * 1, none⟩) hb).trans (hc 0 (by omega))
      rw [Nat.mul_one] at c0
      have fe := F1.out i hlt
      clear hc L
      generalize R.ready.getD i 0 = y at c0 fe
      have FE := Lib.hid fe
      clear fe
      have iI : (i : Int) < (R.ready.length : Int) := by omega
      go_wp2_with fail
      refine (HA.out _ _ _ _ _ LL.out (by have := N1.out i; have := M1.out; rw [List.length_take] at *; omega)).mono ?_
      rintro e w4 ⟨rfl, v4, L4, _⟩
      rw [← FE.out] at L4
      have LL4 := Lib.hid L4
      clear L4
      go_wp2_with fail
      go_roundw
      case rel => exact ⟨i + 1, by omega, by go_num, v4, LL4.out⟩
      case measure => simp [intOf]; omega
    · have e : i = R.ready.length := by omega
      subst e
      rw [E1.out] at L
      obtain ⟨q5, f5, lt5⟩ := L.b1.rules
      unfold cellsR at q5
      clear LL
      have LL5 := Lib.hid L
      clear L
      go_wp2_with fail
      go_loopw [34] (fun iv wr => ∃ i : Nat, i ≤ R.wait.length ∧ iv = .int .i64 i ∧ ∃ v, LS w wr (cellsR R (.slice A1 R.ready.length c1) (.slice A2 R.wait.length c2) (.slice A3 R.due.length c3) sn) v ((R.wait.take i).foldl (fun l p => add1 (add1 l p.1) p.2) (R.ready.foldl add1 (add1 (add1 [] R.proc) R.frame)))) (fun iv _ => R.wait.length - (intOf iv).toNat)
      case atStart => exact ⟨0, Nat.zero_le _, rfl, v, LL5.out⟩
      case round =>
        clear LL5 q5 f5 lt5 hi hlt
        obtain ⟨i, hi, rfl, v, L⟩ := hrel
        have LL := Lib.hid L
        by_cases hlt : i < R.wait.length
        · obtain ⟨b, off, rfl, hb, hc⟩ := Row.at_ H2.out i hlt
          have c0 : wr.cell? ⟨b, off + i * 2, none⟩ = some (.int .i64 (wAt R.wait i).1) := (L.x.below.cell (p := ⟨b, off + i * 2, none⟩) hb).trans (hc 0 (by omega))
          have c1' : wr.cell? ⟨b, off + i * 2 + 1, none⟩ = some (.int .i64 (wAt R.wait i).2) := (L.x.below.cell (p := ⟨b, off + i * 2 + 1, none⟩) hb).trans (hc 1 (by omega))
          have fe : _ = add1 (add1 ((R.wait.take i).foldl (fun l p => add1 (add1 l p.1) p.2) (R.ready.foldl add1 (add1 (add1 [] R.proc) R.frame))) (wAt R.wait i).1) (wAt R.wait i).2 := F2.out i hlt
          have hsz := L.x.below.size
          have hbw : b < wr.heap.size := by omega
          clear hc L
          generalize (wAt R.wait i).1 = y1 at c0 fe
          generalize (wAt R.wait i).2 = y2 at c1' fe
          have FE := Lib.hid fe
          clear fe
          have iI : (i : Int) < (R.wait.length : Int) := by omega
          go_wp2_with fail
          refine (HA.out _ _ _ _ _ (LL.out.ext ((Ext.refl wr).alloc _)) (by have := N2.out i; have := M2.out; have := M1.out; rw [List.length_take] at *; omega)).mono ?_
          rintro e w4 ⟨rfl, v4, L4, B4⟩
          have bw := B4 _ _ (Blk.new wr 96 #[.int .i64 y1, .int .i64 y2])
          obtain ⟨q4, f4, lt4⟩ := bw.rules
          clear B4 bw
          have LL4 := Lib.hid L4
          clear L4
          go_wp2_with fail
          refine (HA.out _ _ _ _ _ LL4.out (by have := N2.out i; have := M2.out; have := M1.out; have := add1_len ((R.wait.take i).foldl (fun l p => add1 (add1 l p.1) p.2) (R.ready.foldl add1 (add1 (add1 [] R.proc) R.frame))) y1; rw [List.length_take] at *; omega)).mono ?_
          rintro e w6 ⟨rfl, v6, L6, _⟩
          rw [← FE.out] at L6
          have LL6 := Lib.hid L6
          clear L6
          go_wp2_with fail
          go_roundw
          case rel => exact ⟨i + 1, by omega, by go_num, v6, LL6.out⟩
          case measure => simp [intOf]; omega
        · have e : i = R.wait.length := by omega
          subst e
          rw [E2.out] at L
          obtain ⟨q5, f5, lt5⟩ := L.b1.rules
          unfold cellsR at q5
          clear LL
          have LL5 := Lib.hid L
          clear L
          go_wp2_with fail
          go_loopw [50] (fun iv wr => ∃ i : Nat, i ≤ R.due.length ∧ iv = .int .i64 i ∧ ∃ v, LS w wr (cellsR R (.slice A1 R.ready.length c1) (.slice A2 R.wait.length c2) (.slice A3 R.due.length c3) sn) v ((R.due.take i).foldl add1 (R.wait.foldl (fun l p => add1 (add1 l p.1) p.2) (R.ready.foldl add1 (add1 (add1 [] R.proc) R.frame))))) (fun iv _ => R.due.length - (intOf iv).toNat)
          case atStart => exact ⟨0, Nat.zero_le _, rfl, v, LL5.out⟩
          case round =>
            clear LL5 q5 f5 lt5 hi hlt
            obtain ⟨i, hi, rfl, v, L⟩ := hrel
            have LL := Lib.hid L
            by_cases hlt : i < R.due.length
            · obtain ⟨b, off, rfl, hb, hc⟩ := Row.at_ H3.out i hlt
              have c0 : wr.cell? ⟨b, off + i * 1, none⟩ = some (.int .i64 (R.due.getD i 0)) := (L.x.below.cell (p := ⟨b, off + i * 1, none⟩) hb).trans (hc 0 (by omega))
              rw [Nat.mul_one] at c0
              have fe := F3.out i hlt
              clear hc L
              generalize R.due.getD i 0 = y at c0 fe
              have FE := Lib.hid fe
              clear fe
              have iI : (i : Int) < (R.due.length : Int) := by omega
              go_wp2_with fail
              refine (HA.out _ _ _ _ _ LL.out (by have := N3.out i; have := M3.out; have := M2.out; have := M1.out; rw [List.length_take] at *; omega)).mono ?_
              rintro e w4 ⟨rfl, v4, L4, _⟩
              rw [← FE.out] at L4
              have LL4 := Lib.hid L4
              clear L4
              go_wp2_with fail
              go_roundw
              case rel => exact ⟨i + 1, by omega, by go_num, v4, LL4.out⟩
              case measure => simp [intOf]; omega
            · have e : i = R.due.length := by omega
              subst e
              rw [E3.out] at L
              obtain ⟨q5, f5, lt5⟩ := L.b3.rules
              clear LL
              have LL5 := Lib.hid L
              clear L
              go_wp2_with fail
              go_ret
              exact ⟨_, rfl, LL5.out.own, LL5.out.x⟩
end Go.Proofs.YtjpalcejmloocaaGreat.World
