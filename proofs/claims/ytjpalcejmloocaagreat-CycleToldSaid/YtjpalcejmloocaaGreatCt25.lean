/-
  Cyc2, Cyc3, as one text (a claim has at most 60 files).
-/
import Derived.Test.YtjpalcejmloocaaGreatCt24
namespace Go.Proofs.YtjpalcejmloocaaGreat.World
open Go.RowKit Go.Proofs.YtjpalcejmloocaaGreat.Plain
set_option linter.unusedVariables false
section
variable {w w' w2 : World} {F F' F2 : Nat → Prop} {m : Nat} {S S' : MS} {X : MX}
theorem TsAt.kt {ts : List TypeId} (h : TsAt w F S X) (k : KT ts w w') (n1 : 3 ∉ ts) (n2 : 4 ∉ ts) (n3 : 38 ∉ ts) (n4 : 49 ∉ ts) (n5 : 72 ∉ ts) : TsAt w' F S X :=
  ⟨blk_kt h.bt k n5, h.bF, h.L.kt k n4, h.LF, fun i hi => (h.fs i hi).kt k n3, h.fF, h.ap, h.dead.kt k n2, h.dF, h.col.kt k n1, h.colF⟩
theorem TsAt.same (h : TsAt w F S X) (e1 : S'.L = S.L) (e2 : S'.dead = S.dead) (e3 : S'.col = S.col) : TsAt w F S' X :=
  ⟨h.bt, h.bF, by rw [e1]; exact h.L, h.LF, by rw [e1]; exact h.fs, by rw [e1]; exact h.fF, by rw [e1]; exact h.ap, by rw [e2]; exact h.dead, h.dF, by rw [e3]; exact h.col, h.colF⟩
theorem MemAt.stack {stk : List Int} {o : Bool} (h : MemAt w F m S X) (st : Grey.Stk w' X.sb stk S.most o) (K : Keep (· = X.sb) w w') : MemAt w' F m { S with stk := stk, over := o } X := by
  have kt : KT [118] w w' := K.mono (fun j e => by
    subst e
    obtain ⟨sc, st'⟩ := h.st
    exact ⟨_, _, List.mem_singleton.2 rfl, st'.blk⟩)
  exact ⟨(h.ts.kt kt (by decide) (by decide) (by decide) (by decide) (by decide)).same rfl rfl rfl, blk_kt h.bm kt (by decide), h.mF, fun j hj => Nat.lt_of_lt_of_le (h.lt j hj) K.size, h.wf.same rfl rfl rfl rfl, h.R.kt kt (by decide) (by decide) (by decide), h.rF, h.ac, st, h.sF, Row.kt h.li h.lT kt (by decide), h.lF, h.lT.kt kt (by decide)⟩
/-- what a collection asks of a world that is turned, and does to it -/
structure Cl (w : World) (m bt sb : Nat) (F : Nat → Prop) (S : MS) : Prop where
  c0 : w.cell? ⟨m, 0, none⟩ = some (.iface 70 (.pointer (some ⟨bt, 0, none⟩)))
  c12 : w.cell? ⟨m, 12, none⟩ = some (.int .i64 S.phase)
  c13 : w.cell? ⟨m, 13, none⟩ = some (.pointer (some ⟨sb, 0, none⟩))
  lt : m < w.heap.size
  class_ : ∀ W [IsExt w W], ∀ i, Calls Tryz.prog 169 #[.pointer (some ⟨bt, 0, none⟩), .int .i64 i] W fun e w' => e = .returned (.int .i64 (S.cls i)) ∧ Ext W w'
  colour : ∀ W [IsExt w W], ∀ i, Calls Tryz.prog 170 #[.pointer (some ⟨bt, 0, none⟩), .int .i64 i] W fun e w' => e = .returned (.int .i64 (S.colour i)) ∧ Ext W w'
  final : ∀ W [IsExt w W], ∀ i, Calls Tryz.prog 172 #[.pointer (some ⟨bt, 0, none⟩), .int .i64 i] W fun e w' => e = .returned (.bool (S.final i)) ∧ Ext W w'
  places : ∀ W [IsExt w W], Calls Tryz.prog 180 #[.pointer (some ⟨bt, 0, none⟩)] W fun e w' => ∃ A c, e = .returned (.slice A S.places.length c) ∧ OwnI w' W.heap.size (.slice A S.places.length c) S.places ∧ Ext W w'
  paint : ∀ W [IsExt w W], ∀ i c : Int, 0 ≤ i → i < S.L.length → Calls Tryz.prog 179 #[.pointer (some ⟨bt, 0, none⟩), .int .i64 i, .int .i64 c] W fun e w' => e = .returned (.tuple #[]) ∧ M w' F m (S.paint i c) ∧ Keep F W w'
  sweep : ∀ W [IsExt w W], ∀ i : Int, 0 ≤ i → i < S.L.length → Calls Tryz.prog 187 #[.pointer (some ⟨bt, 0, none⟩), .int .i64 i] W fun e w' => e = .returned (.tuple #[]) ∧ M w' F m (S.paint i 0) ∧ Keep F W w'
  kill : ∀ W [IsExt w W], ∀ i : Int, 0 ≤ i → i < S.L.length → Calls Tryz.prog 176 #[.pointer (some ⟨bt, 0, none⟩), .int .i64 i] W fun e w' => e = .returned (.tuple #[]) ∧ M w' F m (S.kill i) ∧ Keep F W w'
  setFin : ∀ W [IsExt w W], ∀ (i : Int) (b : Bool), 0 ≤ i → i < S.L.length → Calls Tryz.prog 183 #[.pointer (some ⟨bt, 0, none⟩), .int .i64 i, .bool b] W fun e w' => e = .returned (.tuple #[]) ∧ M w' F m (S.setFin i b) ∧ Keep F W w'
  push : ∀ W [IsExt w W], ∀ v : Int, Calls Tryz.prog 65 #[.pointer (some ⟨sb, 0, none⟩), .int .i64 v] W fun e w' => e = .returned (.bool (decide (S.stk.length < S.most))) ∧ M w' F m (S.pushG v) ∧ Keep F W w'
  pop : ∀ W [IsExt w W], S.stk ≠ [] → Calls Tryz.prog 59 #[.pointer (some ⟨sb, 0, none⟩)] W fun e w' => e = .returned (.tuple #[.int .i64 S.topG, .bool true]) ∧ M w' F m S.popG ∧ Keep F W w'
  pop0 : ∀ W [IsExt w W], S.stk = [] → Calls Tryz.prog 59 #[.pointer (some ⟨sb, 0, none⟩)] W fun e w' => e = .returned (.tuple #[.int .i64 0, .bool false]) ∧ Ext W w'
  len : ∀ W [IsExt w W], Calls Tryz.prog 112 #[.pointer (some ⟨sb, 0, none⟩)] W fun e w' => e = .returned (.int .i64 S.stk.length) ∧ Ext W w'
  over : ∀ W [IsExt w W], Calls Tryz.prog 61 #[.pointer (some ⟨sb, 0, none⟩)] W fun e w' => e = .returned (.bool S.over) ∧ Ext W w'
  clear : ∀ W [IsExt w W], Calls Tryz.prog 63 #[.pointer (some ⟨sb, 0, none⟩)] W fun e w' => e = .returned (.tuple #[]) ∧ M w' F m { S with over := false } ∧ Keep F W w'
theorem M.cl (h : M w F m S) : ∃ bt sb, Cl w m bt sb F S := by
  obtain ⟨X, h⟩ := h
  obtain ⟨q1, _, q3⟩ := h.bm.rules
  have b1 := h.wf.len
  have b2 := h.wf.last
  have b3 := h.wf.dead
  have b4 := h.wf.col
  have kF : ∀ {v : Value} {W w' : World}, InF F v → Keep (fun g => v.ownBlock = some g) W w' → Keep F W w' := fun hv k => k.mono (fun g hg => hv g hg)
  have kS : ∀ {W w' : World}, Keep (· = X.sb) W w' → Keep F W w' := fun k => k.mono (fun g hg => by subst hg; exact h.sF)
  refine ⟨X.bt, X.sb, q1 0, q1 12, q1 13, q3, fun W x i => tclass (h.ext x.out).ts h.wf i, fun W x i => tcolour (h.ext x.out).ts h.wf i, fun W x i => tfinal (h.ext x.out).ts h.wf i, fun W x => tplaces (h.ext x.out).ts h.wf, fun W x i c h0 h1 => ?_, fun W x i h0 h1 => ?_, fun W x i h0 h1 => ?_, fun W x i b h0 h1 => ?_, fun W x v => ?_, fun W x hs => ?_, fun W x hs => ?_, fun W x => (Grey.len_stk (h.ext x.out).st).mono ?_, fun W x => (Grey.over_stk (h.ext x.out).st).mono ?_, fun W x => (Grey.clear_stk (h.ext x.out).st).mono ?_⟩
  · obtain ⟨k, rfl⟩ := Int.eq_ofNat_of_zero_le h0
    refine (tpaint (h.ext x.out).ts k c (by omega) (by omega)).mono ?_
    rintro e w' ⟨rfl, t', K⟩
    exact ⟨rfl, ⟨X, (h.ext x.out).turnCol t' K (MS.paint_wf h.wf _ _) ⟨rfl, rfl, rfl, rfl, rfl, rfl, rfl, rfl⟩⟩, kF h.ts.colF K⟩
  · obtain ⟨k, rfl⟩ := Int.eq_ofNat_of_zero_le h0
    refine (tsweep (h.ext x.out).ts k (by omega) (by omega)).mono ?_
    rintro e w' ⟨rfl, t', K⟩
    exact ⟨rfl, ⟨X, (h.ext x.out).turnCol t' K (MS.paint_wf h.wf _ _) ⟨rfl, rfl, rfl, rfl, rfl, rfl, rfl, rfl⟩⟩, kF h.ts.colF K⟩
  · obtain ⟨k, rfl⟩ := Int.eq_ofNat_of_zero_le h0
    refine (tkill (h.ext x.out).ts k (by omega) (by omega)).mono ?_
    rintro e w' ⟨rfl, t', K⟩
    have kt : KT [4] W w' := K.mono (fun g hg => by
      obtain ⟨_, cs, b⟩ := (h.ext x.out).ts.dead.block hg
      exact ⟨_, cs, List.mem_singleton.2 rfl, b⟩)
    exact ⟨rfl, ⟨X, (h.ext x.out).turn t' kt (MS.kill_wf h.wf _) ⟨rfl, rfl, rfl, rfl, rfl, rfl, rfl, rfl⟩ (by decide) (by decide) (by decide) (by decide) (by decide)⟩, kF h.ts.dF K⟩
  · obtain ⟨k, rfl⟩ := Int.eq_ofNat_of_zero_le h0
    refine (tsetfin (h.ext x.out).ts k b (by omega) (by omega)).mono ?_
    rintro e w' ⟨rfl, t', K⟩
    have kt : KT [49] W w' := K.mono (fun g hg => by
      obtain ⟨_, cs, b⟩ := (h.ext x.out).ts.L.block hg
      exact ⟨_, cs, List.mem_singleton.2 rfl, b⟩)
    exact ⟨rfl, ⟨X, (h.ext x.out).turn t' kt (MS.setFin_wf h.wf ⟨h0, h1⟩ _) ⟨rfl, rfl, rfl, rfl, rfl, rfl, rfl, rfl⟩ (by decide) (by decide) (by decide) (by decide) (by decide)⟩, kF h.ts.LF K⟩
  · by_cases hl : S.stk.length < S.most
    · refine (Grey.push_y (h.ext x.out).st hl v).mono ?_
      rintro e w' ⟨rfl, st, K⟩
      refine ⟨by rw [decide_eq_true hl], ⟨X, ?_⟩, kS K⟩
      have q := (h.ext x.out).stack st K
      unfold MS.pushG
      rw [if_pos hl]; exact q
    · refine (Grey.push_n (h.ext x.out).st hl v).mono ?_
      rintro e w' ⟨rfl, st, K⟩
      refine ⟨by rw [decide_eq_false hl], ⟨X, ?_⟩, kS K⟩
      have q := (h.ext x.out).stack st K
      unfold MS.pushG
      rw [if_neg hl]; exact q
  · have e0 : S.stk = S.stk.dropLast ++ [S.stk.getLast hs] := (List.dropLast_concat_getLast hs).symm
    have st := (h.ext x.out).st
    rw [e0] at st
    refine (Grey.pop_y st).mono ?_
    rintro e w' ⟨rfl, st, K⟩
    refine ⟨?_, ⟨X, (h.ext x.out).stack st K⟩, kS K⟩
    unfold MS.topG
    rw [List.getLast?_eq_some_getLast hs]; rfl
  · have st := (h.ext x.out).st
    rw [hs] at st
    refine (Grey.pop_n st).mono ?_
    rintro e w' ⟨rfl, rfl⟩
    exact ⟨rfl, Ext.refl _⟩
  · rintro e w' ⟨rfl, rfl⟩
    exact ⟨rfl, Ext.refl _⟩
  · rintro e w' ⟨rfl, rfl⟩
    exact ⟨rfl, Ext.refl _⟩
  · rintro e w' ⟨rfl, st, K⟩
    exact ⟨rfl, ⟨X, (h.ext x.out).stack st K⟩, kS K⟩
end
end Go.Proofs.YtjpalcejmloocaaGreat.World
namespace Go.Proofs.YtjpalcejmloocaaGreat.World
open Go.RowKit Go.Proofs.YtjpalcejmloocaaGreat.Plain
set_option linter.unusedVariables false
attribute [local go_sem ↓] Go.wp_at_zero Go.wp_at_succ
section
variable {w w' w2 : World} {F F' F2 : Nat → Prop} {m : Nat} {S S' : MS} {X : MX}
theorem Rd.one {bt bt' sb : Nat} (R : Rd w m bt S) (C : Cl w m bt' sb F S) : bt = bt' := by
  have := R.c0.symm.trans C.c0
  injection this with e
  injection e with _ e
  injection e with e
  injection e with e
  injection e
set_option maxRecDepth 100000 in
set_option maxHeartbeats 1000000 in
theorem mshade (h : M w F m S) (i : Int) : Calls Tryz.prog 43 #[.pointer (some ⟨m, 0, none⟩), .int .i64 i] w fun e w' => e = .returned (.tuple #[]) ∧ M w' F m (S.shade i) ∧ Keep F w w' := by
  obtain ⟨bt, R⟩ := h.rd
  obtain ⟨bt', sb, C⟩ := h.cl
  obtain rfl := R.one C
  have c0 := C.c0
  have lt := C.lt
  have C1 := Lib.hid (fun W [IsExt w W] => R.has W i)
  have C2 := Lib.hid (fun W [IsExt w W] => C.colour W i)
  have HI : Hid (S.has i = true → 0 ≤ i ∧ i < S.L.length) := Lib.hid MS.has_lt
  have C3 := Lib.hid (fun W [IsExt w W] => C.paint W i 1)
  have E : Hid (S.shade i = if S.has i && decide (S.colour i = 0) then (S.paint i 1).pushG i else S) := Lib.hid rfl
  have HH := Lib.hid h
  clear R C h
  cases ha : S.has i with
  | false =>
    rw [ha, Bool.false_and, if_neg (by decide)] at E
    rw [ha] at C1
    clear ha C2 C3 HI
    go_enter Tryz.func43, Tryz.ntmps43
    go_wp2_with (first | (go_at_call 174; refine (C1.out _).mono ?_; rintro e w2 ⟨rfl, x2⟩; obtain ⟨y, rfl⟩ := x2))
    go_end0
    exact ⟨rfl, by rw [E.out]; exact HH.out.ext (is_ext _ _), Keep.of_ext (is_ext _ _) _⟩
  | true =>
    rw [ha, Bool.true_and] at E
    obtain ⟨h0, h1⟩ := HI.out ha
    rw [ha] at C1
    replace C3 := Lib.hid (fun W [IsExt w W] => C3.out W h0 h1)
    clear ha HI h0 h1
    generalize hc : S.colour i = cc at *
    clear hc
    by_cases h2 : cc = 0
    · subst h2
      rw [decide_eq_true rfl, if_pos rfl] at E
      go_enter Tryz.func43, Tryz.ntmps43
      go_wp2_with (first | (go_at_call 174; refine (C1.out _).mono ?_; rintro e w2 ⟨rfl, x2⟩; obtain ⟨y, rfl⟩ := x2) | (go_at_call 170; refine (C2.out _).mono ?_; rintro e w2 ⟨rfl, x2⟩; obtain ⟨y, rfl⟩ := x2))
      refine calls_name (fun W hW => ?_)
      have hx : IsExt w W := ⟨by rw [hW]; exact is_ext _ _⟩
      clear hW
      refine (C3.out W).mono ?_
      rintro e w2 ⟨rfl, m2, k2⟩
      obtain ⟨bt2, sb2, D⟩ := m2.cl
      have K2 := Lib.hid ((Keep.of_ext hx.out F).trans k2)
      have P := Lib.hid (fun W [IsExt w2 W] => D.push W i)
      clear c0 lt hx m2 k2 C1 C2 C3 HH
      have c0 := D.c13
      have lt := D.lt
      clear D
      go_wp2_with fail
      refine calls_name (fun W hW => ?_)
      have hx : IsExt w2 W := ⟨by rw [hW]; exact is_ext _ _⟩
      clear hW
      refine (P.out W).mono ?_
      rintro e w3 ⟨rfl, m3, k3⟩
      have M3 := Lib.hid m3
      have K3 := Lib.hid (K2.out.trans ((Keep.of_ext hx.out F).trans k3))
      clear m3 k3 hx P K2 c0 lt
      go_wp2_with fail
      go_end0
      exact ⟨rfl, by rw [E.out]; exact M3.out, K3.out⟩
    · have e2 : (cc == 0) = false := beq_eq_false_iff_ne.2 h2
      rw [decide_eq_false h2, if_neg (by decide)] at E
      clear h2 C3
      go_enter Tryz.func43, Tryz.ntmps43
      go_wp2_with (first | (go_at_call 174; refine (C1.out _).mono ?_; rintro e w2 ⟨rfl, x2⟩; obtain ⟨y, rfl⟩ := x2) | (go_at_call 170; refine (C2.out _).mono ?_; rintro e w2 ⟨rfl, x2⟩; obtain ⟨y, rfl⟩ := x2))
      go_end0
      exact ⟨rfl, by rw [E.out]; exact HH.out.ext (is_ext _ _), Keep.of_ext (is_ext _ _) _⟩
/-- IsFirst -/
theorem misfirst (h : M w F m S) (i : Int) : Calls Tryz.prog 23 #[.pointer (some ⟨m, 0, none⟩), .int .i64 i] w fun e w' => e = .returned (.bool (decide (0 ≤ i ∧ i < 23))) ∧ Ext w w' := by
  obtain ⟨bt, R⟩ := h.rd
  have c0 := R.c0
  have lt := R.lt
  have C1 := Lib.hid (fun W k => @tspecial W k (.pointer (some ⟨bt, 0, none⟩)))
  clear h R
  go_enter Tryz.func23, Tryz.ntmps23
  go_wp2_with fail
  go_loopw [6] (fun iv wr => ∃ k : Nat, k ≤ 23 ∧ iv = .int .i64 k ∧ (∀ j : Nat, j < k → i ≠ (j : Int)) ∧ Ext w wr) (fun iv _ => 23 - (intOf iv).toNat)
  case atStart => exact ⟨0, by omega, rfl, fun j hj => by omega, Ext.refl _⟩
  case round =>
    obtain ⟨k, hk, rfl, hn, x⟩ := hrel
    obtain ⟨y, rfl⟩ := x
    have HN := Lib.hid hn
    clear hn
    by_cases hlt : k < 23
    · have kI : (k : Int) < 23 := by omega
      by_cases he : (k : Int) = i
      · subst he
        go_wp2_with (first | (go_at_call 185; refine (C1.out _ _).mono ?_; rintro e w2 ⟨rfl, x2⟩; obtain ⟨y, rfl⟩ := x2))
        go_ret
        exact ⟨ret_bool (by rw [decide_eq_true ⟨by omega, by omega⟩]), is_ext _ _⟩
      · have e1 : ((k : Int) == i) = false := beq_eq_false_iff_ne.2 he
        have HE := Lib.hid he
        clear he
        go_wp2_with (first | (go_at_call 185; refine (C1.out _ _).mono ?_; rintro e w2 ⟨rfl, x2⟩; obtain ⟨y, rfl⟩ := x2))
        go_roundw
        case rel => exact ⟨k + 1, by omega, by go_num, fun j hj => by
          rcases Nat.lt_or_ge j k with h1 | h1
          · exact HN.out j h1
          · obtain rfl : j = k := by omega
            exact fun q => HE.out q.symm, is_ext _ _⟩
        case measure => simp [intOf] <;> omega
    · obtain rfl : k = 23 := by omega
      go_wp2_with fail
      go_ret
      refine ⟨ret_bool ?_, is_ext _ _⟩
      rw [decide_eq_false]
      intro q
      exact HN.out i.toNat (by omega) (by omega)
end
end Go.Proofs.YtjpalcejmloocaaGreat.World
