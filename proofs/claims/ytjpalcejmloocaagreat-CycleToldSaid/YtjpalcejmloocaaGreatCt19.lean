/-
  Mem4, Reach, as one text (a claim has at most 60 files).
-/
import Derived.Test.YtjpalcejmloocaaGreatCt17
import Derived.Test.YtjpalcejmloocaaGreatCt18
import Derived.StillTailTactics
import Derived.Test.YtjpalcejmloocaaGreatCt12
namespace Go.Proofs.YtjpalcejmloocaaGreat.World
open Go.RowKit Go.Proofs.YtjpalcejmloocaaGreat.Plain
set_option linter.unusedVariables false
attribute [local go_sem ↓] Go.wp_at_zero Go.wp_at_succ
section
variable {w w' w2 : World} {F F' F2 : Nat → Prop} {m : Nat} {S S' : MS} {X : MX}
theorem mbar (h : M w F m S) (hp : S.phase ≠ 1) (i : Int) : Calls Tryz.prog 243 #[.pointer (some ⟨m, 0, none⟩), .int .i64 i] w fun e w' => e = .returned (.tuple #[]) ∧ Ext w w' := by
  obtain ⟨bt, R⟩ := h.rd
  have c12 := R.c12
  have lt := R.lt
  have hp' : (S.phase == 1) = false := beq_eq_false_iff_ne.2 hp
  clear h R
  generalize S.phase = p at *
  go_enter Tryz.func243, Tryz.ntmps243
  go_wp2
  go_end0
  exact ⟨rfl, Ext.refl _⟩
theorem mfirst (h : M w F m S) (k : Int) : Calls Tryz.prog 130 #[.pointer (some ⟨m, 0, none⟩), .int .i64 k] w fun e w' => e = .returned (val (objV k)) ∧ Ext w w' := by
  obtain ⟨bt, R⟩ := h.rd
  have c0 := R.c0
  have lt := R.lt
  have C1 := Lib.hid (fun W => @tspecial W k (.pointer (some ⟨bt, 0, none⟩)))
  clear h R
  go_enter Tryz.func130, Tryz.ntmps130
  go_wp2_with (first | (go_at_call 185; refine (C1.out _).mono ?_; rintro e w2 ⟨rfl, x2⟩; obtain ⟨y, rfl⟩ := x2))
  refine bodyPost_ret (v := .agg #[.bool true, .int .i64 k]) (by simp [results, Tryz.results130, go_sem]) rfl ⟨rfl, is_ext _ _⟩
theorem mnil (h : M w F m S) : Calls Tryz.prog 113 #[.pointer (some ⟨m, 0, none⟩)] w fun e w' => e = .returned (val (objV 0)) ∧ Ext w w' := by
  have C1 := Lib.hid (fun W [x : IsExt w W] => mfirst (h.ext x.out) 0)
  clear h
  unfold val objV at *
  go_enter Tryz.func113, Tryz.ntmps113
  go_wp2_with (first | (go_at_call 130; refine (C1.out _).mono ?_; rintro e w2 ⟨rfl, x2⟩; obtain ⟨y, rfl⟩ := x2))
  refine bodyPost_ret (v := .agg #[.bool true, .int .i64 0]) (by simp [results, Tryz.results113, go_sem]) rfl ⟨rfl, is_ext _ _⟩
set_option maxRecDepth 100000 in
set_option maxHeartbeats 4000000 in
theorem mset (h : M w F m S) (hp : S.phase ≠ 1) (i j : Int) (v : PV) : Calls Tryz.prog 218 #[.pointer (some ⟨m, 0, none⟩), .int .i64 i, .int .i64 j, val v] w fun e w' => e = .returned (.bool (S.setOK i j v)) ∧ M w' F m (S.set i j v) ∧ Keep F w w' := by
  obtain ⟨bt, R⟩ := h.rd
  have C1 := Lib.hid (fun W [x : IsExt w W] => mfield (h.ext x.out) i j)
  have C2 := Lib.hid (fun W [x : IsExt w W] => mmay (h.ext x.out) v)
  have C3 := Lib.hid (fun W => @msize W v)
  have C4 := Lib.hid (fun W => @mformat W v)
  have C5 := Lib.hid (fun W [x : IsExt w W] => misclass (h.ext x.out) i)
  have E : Hid (S.setOK i j v = (S.isField i j && (S.may v && !(((decide (j = 3) && !MS.sizeOK v) || (decide (j = 4) && !MS.fmtOK v)) && S.isClass i)))) := Lib.hid rfl
  have ES : Hid (S.set i j v = if S.setOK i j v then S.put i j v else S) := Lib.hid rfl
  have HP := Lib.hid (fun a b => mput (v := v) h (i := i) (j := j) a b)
  have HF := Lib.hid h.lt
  have hpp : (S.put i j v).phase ≠ 1 := hp
  have HH := Lib.hid h
  have c0 := R.c0
  have lt := R.lt
  clear R h
  generalize S.setOK i j v = ok at *
  generalize S.isField i j = a at *
  generalize S.may v = b at *
  generalize MS.sizeOK v = c at *
  generalize MS.fmtOK v = d at *
  generalize S.isClass i = k at *
  obtain ⟨o, n⟩ := v
  unfold val at *
  cases a with
  | false =>
    obtain rfl : ok = false := E.out
    rw [if_neg (by decide)] at ES
    clear HP hpp
    go_enter Tryz.func218, Tryz.ntmps218
    go_wp2_with (first | (go_at_call 27; refine (C1.out _).mono ?_; rintro e w2 ⟨rfl, x2⟩; obtain ⟨y, rfl⟩ := x2))
    go_ret
    exact ⟨rfl, by rw [ES.out]; exact HH.out.ext (is_ext _ _), Keep.of_ext (is_ext _ _) _⟩
  | true =>
    cases b with
    | false =>
      obtain rfl : ok = false := E.out
      rw [if_neg (by decide)] at ES
      clear HP hpp
      go_enter Tryz.func218, Tryz.ntmps218
      go_wp2_with (first | (go_at_call 27; refine (C1.out _).mono ?_; rintro e w2 ⟨rfl, x2⟩; obtain ⟨y, rfl⟩ := x2) | (go_at_call 242; refine (C2.out _).mono ?_; rintro e w2 ⟨rfl, x2⟩; obtain ⟨y, rfl⟩ := x2))
      go_ret
      exact ⟨rfl, by rw [ES.out]; exact HH.out.ext (is_ext _ _), Keep.of_ext (is_ext _ _) _⟩
    | true =>
      obtain ⟨bt', c0', lt', P⟩ := HP.out rfl rfl
      obtain rfl : bt = bt' := by rw [c0] at c0'; injection c0' with e; injection e with _ e; injection e with e; injection e with e; injection e
      have PP := Lib.hid P
      clear HP P c0' lt'
      have hj : j = 3 ∨ j = 4 ∨ ((j == 3) = false ∧ (j == 4) = false) := by
        by_cases h3 : j = 3
        · exact .inl h3
        · by_cases h4 : j = 4
          · exact .inr (.inl h4)
          · exact .inr (.inr ⟨beq_eq_false_iff_ne.2 h3, beq_eq_false_iff_ne.2 h4⟩)
      have HE : Hid ((j == 3) = false → (j == 4) = false → ok = true) := Lib.hid (fun h3 h4 => by rw [E.out, decide_eq_false (beq_eq_false_iff_ne.1 h3), decide_eq_false (beq_eq_false_iff_ne.1 h4)]; rfl)
      rcases hj with rfl | rfl | ⟨h3, h4⟩
      all_goals
        go_enter Tryz.func218, Tryz.ntmps218
        go_wp2_with (first | (go_at_call 27; refine (C1.out _).mono ?_; rintro e w2 ⟨rfl, x2⟩; obtain ⟨y, rfl⟩ := x2) | (go_at_call 242; refine (C2.out _).mono ?_; rintro e w2 ⟨rfl, x2⟩; obtain ⟨y, rfl⟩ := x2) | (go_at_call 94; refine (C3.out _).mono ?_; rintro e w2 ⟨rfl, x2⟩; obtain ⟨y, rfl⟩ := x2) | (go_at_call 95; refine (C4.out _).mono ?_; rintro e w2 ⟨rfl, x2⟩; obtain ⟨y, rfl⟩ := x2) | (go_at_call 67; refine (C5.out _).mono ?_; rintro e w2 ⟨rfl, x2⟩; obtain ⟨y, rfl⟩ := x2))
        all_goals first
          | (go_ret
             have eo : ok = false := by rw [E.out]; simp [*]
             rw [eo, if_neg (by decide)] at ES
             exact ⟨ret_bool eo.symm, by rw [ES.out]; exact HH.out.ext (is_ext _ _), Keep.of_ext (is_ext _ _) _⟩)
          | (have eo : ok = true := by first | exact HE.out ‹_› ‹_› | (rw [E.out]; simp [*])
             rw [if_pos eo] at ES
             have EO := Lib.hid eo
             clear eo C1 C2 C3 C4 C5 E HE
             go_still_tail 7, (by kernel_rfl)
             go_wp2_with fail
             refine calls_name (fun W hW => ?_)
             have hx : IsExt w W := ⟨by rw [hW]; exact is_ext _ _⟩
             have hB : Blk W w.heap.size 38 #[.bool o, .int .i64 n] := by rw [hW]; exact (Blk.new w _ _).ext (is_ext _ _)
             clear hW
             refine (PP.out W).mono ?_
             rintro e w2 ⟨rfl, m2, k2⟩
             have B2 := hB.keep k2 (fun hf => by have := HF.out _ hf; omega)
             obtain ⟨q1, q2, q3⟩ := B2.rules
             have K2 := Lib.hid ((Keep.of_ext hx.out F).trans k2)
             have C6 := Lib.hid (fun W [x : IsExt w2 W] => mbar (m2.ext x.out) hpp n)
             have M2 := Lib.hid m2
             clear m2 k2 B2 hB PP HH hx c0 hpp
             cases o
             all_goals
               go_wp2_with (first | (go_at_call 243; refine (C6.out _).mono ?_; rintro e w2 ⟨rfl, x2⟩; obtain ⟨y, rfl⟩ := x2))
               go_ret
               exact ⟨ret_bool EO.out.symm, by rw [ES.out]; exact M2.out.ext (is_ext _ _), K2.out.ext (is_ext _ _)⟩)
end
end Go.Proofs.YtjpalcejmloocaaGreat.World
namespace Go.Proofs.YtjpalcejmloocaaGreat.World
open Go.RowKit Go.Proofs.YtjpalcejmloocaaGreat.Plain
set_option linter.unusedVariables false
attribute [local go_sem ↓] Go.wp_at_zero Go.wp_at_succ

def has1 (l : List Int) (x : Int) (j : Nat) : Bool := l.getD j 0 == x
theorem has1_all (l : List Int) (x : Int) : (!allTo (fun j => !has1 l x j) l.length) = l.contains x := by
  rw [Bool.eq_iff_iff, Bool.not_eq_true', ← Bool.not_eq_true, allTo_iff, List.contains_iff_mem]
  constructor
  · intro h
    refine Classical.byContradiction fun hn => h fun i hi => ?_
    unfold has1
    rw [Bool.not_eq_true', beq_eq_false_iff_ne]
    rintro rfl
    apply hn
    rw [List.getD_eq_getElem?_getD, List.getElem?_eq_getElem hi]; exact List.getElem_mem hi
  · intro hm h
    obtain ⟨i, hi, e⟩ := List.getElem_of_mem hm
    have := h i hi
    unfold has1 at this
    rw [List.getD_eq_getElem?_getD, List.getElem?_eq_getElem hi, Bool.not_eq_true', beq_eq_false_iff_ne] at this
    exact this e
section
variable {w : World}
set_option maxRecDepth 100000 in
set_option maxHeartbeats 1000000 in
theorem indexInt {l : List Int} {v : Value} (hv : IntsAt w v l) (x : Int) : Calls Tryz.prog 131 #[v, .int .i64 x] w (IdxPost w l.length (has1 l x)) := by
  obtain ⟨A, c, rfl, h1, h2⟩ := Row.form hv
  have hv : Row w (.slice A l.length c) l.length 1 (fun i _ => .int .i64 (l.getD i 0)) := hv
  have HR := Lib.hid hv
  have AF := Lib.hid (allTo_false (fun j => !has1 l x j) l.length)
  have AS := Lib.hid (allTo_succ (fun j => !has1 l x j))
  have HE : Hid (∀ j, has1 l x j = (l.getD j 0 == x)) := Lib.hid (fun _ => rfl)
  clear hv
  generalize hn : l.length = n at *
  clear hn
  go_enter Tryz.func131, Tryz.ntmps131
  go_wp2
  go_loopw [8] (fun iv wr => ∃ i : Nat, i ≤ n ∧ iv = .int .i64 i ∧ allTo (fun j => !has1 l x j) i = true ∧ w = wr) (fun iv _ => n - (intOf iv).toNat)
  case atStart => exact ⟨0, Nat.zero_le _, rfl, rfl, rfl⟩
  case round =>
    obtain ⟨i, hi, rfl, ha, rfl⟩ := hrel
    have HA := Lib.hid ha
    clear ha
    by_cases hlt : i < n
    · obtain ⟨b, off, rfl, hb, hc⟩ := Row.at_ HR.out i hlt
      have c0 : w.cell? ⟨b, off + i * 1, none⟩ = some (.int .i64 (l.getD i 0)) := hc 0 (by omega)
      rw [Nat.mul_one] at c0
      have iI : (i : Int) < (n : Int) := by omega
      have HEi := HE.out i
      clear hc
      generalize l.getD i 0 = y at *
      cases hp : (y == x) with
      | true =>
        have AN := Lib.hid (AF.out i hlt (by rw [HEi, hp]; rfl))
        have hp' : (x == y) = true := by rw [beq_iff_eq] at hp ⊢; exact hp.symm
        clear hp HEi
        go_wp2
        go_ret
        exact ⟨_, rfl, .inr ⟨AN.out, by omega, by omega⟩, Ext.refl _⟩
      | false =>
        have AN := Lib.hid (AS.out i HA.out (by rw [HEi, hp]; rfl))
        have hp' : (x == y) = false := by rw [beq_eq_false_iff_ne] at hp ⊢; exact fun e => hp e.symm
        clear hp HEi
        go_wp2
        go_roundw
        case rel => exact ⟨i + 1, by omega, by go_num, AN.out, trivial⟩
        case measure => simp [intOf]; omega
    · obtain rfl : i = n := by omega
      go_wp2
      go_ret
      exact ⟨_, rfl, .inl ⟨HA.out, rfl⟩, Ext.refl _⟩
set_option maxRecDepth 100000 in
set_option maxHeartbeats 1000000 in
theorem containsInt {l : List Int} {v : Value} (hv : IntsAt w v l) (x : Int) : Calls Tryz.prog 115 #[v, .int .i64 x] w fun e w' => e = .returned (.bool (l.contains x)) ∧ Ext w w' := by
  have C := Lib.hid (indexInt hv x)
  have E := has1_all l x
  clear hv
  go_enter Tryz.func115, Tryz.ntmps115
  go_wp2_with fail
  refine C.out.mono ?_
  rintro e w2 ⟨r, rfl, hr, x⟩
  have X := Lib.hid x
  have HE := Lib.hid E
  clear E x
  rcases hr with ⟨h1, rfl⟩ | ⟨h1, h2, h3⟩
  · have H1 := Lib.hid h1
    clear h1
    go_wp2_with fail
    go_ret
    exact ⟨ret_bool (by rw [← HE.out, H1.out]; rfl), X.out⟩
  · have H1 := Lib.hid h1
    clear h1 h3
    go_wp2_with fail
    go_ret
    exact ⟨ret_bool (by rw [← HE.out, H1.out]; rfl), X.out⟩
end
end Go.Proofs.YtjpalcejmloocaaGreat.World
