/-
  Read, as one text (a claim has at most 60 files).
-/
import Derived.Test.YtjpalcejmloocaaGreatVq22
import Derived.Deep.RegionHeld3
import Derived.Deep.Slices
namespace Go.Proofs.YtjpalcejmloocaaGreat.World
open Go.RowKit Go.Proofs.YtjpalcejmloocaaGreat.Plain
set_option linter.unusedVariables false
attribute [local go_sem ↓] Go.wp_at_zero Go.wp_at_succ
/-- a reading: the bytes that are left, what is wrong -/
structure RdS where
  b : List Int
  e : Int
def wrongR (x : Int) (s : RdS) : RdS := if s.e = 0 then ⟨s.b, x⟩ else s
def takeR (n : Nat) (s : RdS) : List Int × RdS := if s.e = 0 then (if n ≤ s.b.length then (s.b.take n, ⟨s.b.drop n, 0⟩) else (List.replicate (min n 4) 0, ⟨s.b, 3⟩)) else (List.replicate (min n 4) 0, s)
def beV (l : List Int) : Int := l.foldl (fun v x => v * 256 + x) 0
def numR (s : RdS) : Int × RdS := (beV (takeR 4 s).1, (takeR 4 s).2)
def okB (l : List Int) : Prop := ∀ x ∈ l, 0 ≤ x ∧ x < 256
/-- the reader's box, its bytes in elder memory -/
structure RdAt (w0 w : World) (g : Nat) (s : RdS) : Prop where
  ex : ∃ v, Blk w g 124 #[v, .int .i64 s.e] ∧ Row w0 v s.b.length 1 (cU s.b)
  x : Ext w0 w
  hg : w0.heap.size ≤ g
theorem RdAt.ext {w0 w w' : World} {g : Nat} {s : RdS} (h : RdAt w0 w g s) (y : Ext w w') : RdAt w0 w' g s := by
  obtain ⟨v, b, r⟩ := h.ex
  exact ⟨⟨v, b.ext y, r⟩, h.x.trans y, h.hg⟩
section
variable {w w0 : World} {g : Nat} {s : RdS}
set_option maxRecDepth 100000 in
set_option maxHeartbeats 1000000 in
theorem wrong_ (h : RdAt w0 w g s) (x : Int) : Calls Tryz.prog 68 #[.pointer (some ⟨g, 0, none⟩), .int .i64 x] w fun e w' => e = .returned (.tuple #[]) ∧ RdAt w0 w' g (wrongR x s) ∧ Keep (· = g) w w' := by
  obtain ⟨v, b, r⟩ := h.ex
  obtain ⟨A, c, ev, _⟩ := Row.form r
  subst ev
  have HH := Lib.hid h
  have HB := Lib.hid b
  have HR := Lib.hid r
  obtain ⟨r1, r2, r3⟩ := b.rules
  clear h b r
  obtain ⟨bs, se⟩ := s
  simp only at r1 HB HR
  by_cases h0 : se = 0
  · subst h0
    have EW : Hid (wrongR x ⟨bs, 0⟩ = ⟨bs, x⟩) := Lib.hid rfl
    go_enter Tryz.func68, Tryz.ntmps68
    go_wp2_with fail
    go_end0
    refine ⟨rfl, ?_, (Keep.refl (· = g) w).setCell (p := ⟨g, 1, none⟩) rfl _⟩
    rw [EW.out]
    exact ⟨⟨_, by have := HB.out.set 1 (.int .i64 x); simpa using this, HR.out⟩, HH.out.x.setNew (p := ⟨g, 1, none⟩) HH.out.hg _, HH.out.hg⟩
  · have e0 : (se == 0) = false := beq_eq_false_iff_ne.2 h0
    have EW : Hid (wrongR x ⟨bs, se⟩ = ⟨bs, se⟩) := Lib.hid (by unfold wrongR; rw [if_neg h0])
    clear h0
    go_enter Tryz.func68, Tryz.ntmps68
    go_wp2_with fail
    go_end0
    refine ⟨rfl, by rw [EW.out]; exact HH.out, Keep.refl _ _⟩
theorem make_bytes (n : Nat) (hn : n ≤ 1000000) (w : World) : (Instr.makeSlice 79 (.int .i64 (n : Int)) (.int .i64 (n : Int))).run Tryz.prog w = .ok (.slice (some ⟨w.heap.size, 0, none⟩) n n) (w.alloc (.cells ((List.replicate n (0 : Int)).map (Value.int .u8)).toArray 5)) := by
  obtain ⟨i0, hi, hz0, hz1, hz2⟩ := info_parts infoU
  have h := run_make (P := Tryz.prog) w 79 5 i0 (.int .u8 0) Tryz.underlying79 hi hz0 .i64 .i64 (n : Int) (n : Int) (by omega) (by omega) (by rw [hz2]; omega) (by omega)
  rw [h]
  have e : madeCells (Value.cells (.int .u8 0)) ((n : Int).toNat * i0.size) = ((List.replicate n (0 : Int)).map (Value.int .u8)).toArray := by
    rw [hz1, Int.toNat_natCast]
    apply Array.ext
    · simp [madeCells]
    · intro j h1 h2
      simp [madeCells, Value.cells, Nat.mod_one]
  rw [e, Int.toNat_natCast]
theorem rowB {w : World} {g' : Nat} {l : List Int} (h : Blk w g' 5 (l.map (Value.int .u8)).toArray) (hm : l.length ≤ 1000000) : Row w (.slice (some ⟨g', 0, none⟩) l.length l.length) l.length 1 (cU l) :=
  ⟨_, _, rfl, Nat.le_refl _, by omega, fun i hi => ⟨g', 0, rfl, h.lt, fun j hj => by
    obtain rfl : j = 0 := by omega
    rw [show 0 + i * 1 + 0 = i from by omega, h.cell]
    unfold cU
    simp [List.getD_eq_getElem?_getD, hi]⟩⟩
theorem row_take {w : World} {A : Option Addr} {c n : Nat} {l : List Int} (h : Row w (.slice A l.length c) l.length 1 (cU l)) (hn : n ≤ l.length) : Row w (.slice A n c) (l.take n).length 1 (cU (l.take n)) := by
  obtain ⟨A', c', e, h1, h2, h3⟩ := h.ex
  injection e with e1 e2 e3
  subst e1 e3
  have hl : (l.take n).length = n := by rw [List.length_take]; omega
  refine ⟨A, c, by rw [hl], by omega, h2, fun i hi => ?_⟩
  obtain ⟨b, off, ea, hb, hc⟩ := h3 i (by omega)
  refine ⟨b, off, ea, hb, fun j hj => ?_⟩
  rw [hc j hj]
  unfold cU
  rw [List.getD_eq_getElem?_getD, List.getD_eq_getElem?_getD, List.getElem?_take_of_lt (by omega)]
theorem row_drop {w : World} {A : Option Addr} {c n : Nat} {l : List Int} (h : Row w (.slice A l.length c) l.length 1 (cU l)) (hn : n ≤ l.length) : Row w (.slice (Option.map (fun x => x.add n) A) (l.length - n) (c - n)) (l.drop n).length 1 (cU (l.drop n)) := by
  obtain ⟨A', c', e, h1, h2, h3⟩ := h.ex
  injection e with e1 e2 e3
  subst e1 e3
  have hl : (l.drop n).length = l.length - n := List.length_drop
  refine ⟨_, _, by rw [hl], by omega, by omega, fun i hi => ?_⟩
  obtain ⟨b, off, ea, hb, hc⟩ := h3 (n + i) (by omega)
  refine ⟨b, off + n, by rw [ea]; show some (Addr.add ⟨b, off, none⟩ n) = _; rw [Addr.add_lit], hb, fun j hj => ?_⟩
  obtain rfl : j = 0 := by omega
  have q := hc 0 (by omega)
  rw [show off + n + i * 1 + 0 = off + (n + i) * 1 + 0 from by omega, q]
  unfold cU
  rw [List.getD_eq_getElem?_getD, List.getD_eq_getElem?_getD, List.getElem?_drop]
theorem row_none {w : World} {A : Option Addr} {c : Nat} {v : Value} (hv : v = .slice A 0 c) (hc : c ≤ 9223372036854775807) : Row w v ([] : List Int).length 1 (cU []) :=
  ⟨A, c, hv, Nat.zero_le _, hc, fun i hi => absurd hi (Nat.not_lt_zero _)⟩
theorem rowZ (w : World) (n : Nat) (hn : n ≤ 1000000) : Row (w.alloc (.cells (Array.replicate n (.int .u8 0)) 5)) (.slice (some ⟨w.heap.size, 0, none⟩) n n) (List.replicate n (0 : Int)).length 1 (cU (List.replicate n 0)) := by
  have e : ((List.replicate n (0 : Int)).map (Value.int .u8)).toArray = Array.replicate n (.int .u8 0) := by simp
  have hl : (List.replicate n (0 : Int)).length = n := List.length_replicate
  have q := rowB (w := w.alloc (.cells (Array.replicate n (.int .u8 0)) 5)) (g' := w.heap.size) (l := List.replicate n 0) (by rw [e]; exact Blk.new w _ _) (by rw [hl]; exact hn)
  rw [hl] at q ⊢
  exact q
theorem make_zeros (n : Nat) (hn : n ≤ 1000000) (w : World) : (Instr.makeSlice 79 (.int .i64 (n : Int)) (.int .i64 (n : Int))).run Tryz.prog w = .ok (.slice (some ⟨w.heap.size, 0, none⟩) n n) (w.alloc (.cells (Array.replicate n (.int .u8 0)) 5)) := by
  rw [make_bytes n hn]; simp
set_option maxRecDepth 100000 in
set_option maxHeartbeats 1000000 in
theorem take_ (h : RdAt w0 w g s) (n : Nat) (hn : n ≤ 4294967295) : Calls Tryz.prog 69 #[.pointer (some ⟨g, 0, none⟩), .int .i64 (n : Int)] w fun e w' => ∃ v, e = .returned v ∧ Row w' v (takeR n s).1.length 1 (cU (takeR n s).1) ∧ RdAt w0 w' g (takeR n s).2 ∧ Keep (· = g) w w' := by
  obtain ⟨v, b, r⟩ := h.ex
  obtain ⟨A, c, ev, lc, lm⟩ := Row.form r
  subst ev
  have HH := Lib.hid h
  have HB := Lib.hid b
  have HR := Lib.hid r
  have CW := Lib.hid (fun W2 (z : Ext w W2) => wrong_ (h.ext z) 3)
  obtain ⟨r1, r2, r3⟩ := b.rules
  clear h b r
  obtain ⟨bs, se⟩ := s
  simp only at r1 HB HR lc
  obtain ⟨mn, hmn⟩ : ∃ mn, min n 4 = mn := ⟨_, rfl⟩
  have hm4 : mn ≤ 4 := by omega
  have MN := Lib.hid hmn
  have hmi : (if (n : Int) < 4 then (n : Int) else 4) = (mn : Int) := by split <;> omega
  by_cases h0 : se = 0
  · subst h0
    by_cases hle : n ≤ bs.length
    · have hI : (n : Int) ≤ (bs.length : Int) := by omega
      have ET : Hid (takeR n ⟨bs, 0⟩ = (bs.take n, ⟨bs.drop n, 0⟩)) := Lib.hid (by unfold takeR; rw [if_pos rfl, if_pos hle])
      have RT := Lib.hid (row_take HR.out hle)
      have RD := Lib.hid (row_drop HR.out hle)
      go_enter Tryz.func69, Tryz.ntmps69
      go_wp2_with fail
      refine wp_scope_straight ?_
      go_wp2_with fail
      case inr =>
        go_ret
        rw [ET.out]
        refine ⟨_, rfl, Row.ext RT.out (HH.out.x.setNew (p := ⟨g, 0, none⟩) HH.out.hg _), ⟨⟨_, by have := HB.out.set 0 (.slice (Option.map (fun x => x.add n) A) (bs.length - n) (c - n)); simpa using this, RD.out⟩, HH.out.x.setNew (p := ⟨g, 0, none⟩) HH.out.hg _, HH.out.hg⟩, (Keep.refl (· = g) w).setCell (p := ⟨g, 0, none⟩) rfl _⟩
      case inl =>
        have hbn : bs.length = n := by omega
        have hcn : c = n := by omega
        go_ret
        rw [ET.out]
        have hd : bs.drop n = [] := List.drop_of_length_le (by omega)
        have RT2 := RT.out
        rw [hcn] at RT2
        refine ⟨_, rfl, Row.ext RT2 (HH.out.x.setNew (p := ⟨g, 0, none⟩) HH.out.hg _), ⟨⟨_, by have := HB.out.set 0 (.slice A (bs.length - n) 0); simpa using this, ?_⟩, HH.out.x.setNew (p := ⟨g, 0, none⟩) HH.out.hg _, HH.out.hg⟩, (Keep.refl (· = g) w).setCell (p := ⟨g, 0, none⟩) rfl _⟩
        show Row w0 _ (bs.drop n).length 1 (cU (bs.drop n))
        rw [hd]
        exact row_none (by rw [hbn, Nat.sub_self]) (by omega)
    · have hI : ¬ (n : Int) ≤ (bs.length : Int) := by omega
      have ET : Hid (takeR n ⟨bs, 0⟩ = (List.replicate mn 0, ⟨bs, 3⟩)) := Lib.hid (by unfold takeR; rw [if_pos rfl, if_neg hle, MN.out])
      have EW : Hid (wrongR 3 ⟨bs, 0⟩ = ⟨bs, 3⟩) := Lib.hid rfl
      go_enter Tryz.func69, Tryz.ntmps69
      go_wp2_with fail
      refine wp_scope_straight ?_
      go_wp2_with (go_at_call 68; refine (CW.out _ (is_ext _ _)).mono ?_; rintro e w2 ⟨rfl, hr, k2⟩; rw [EW.out] at hr; have H2 := Lib.hid hr; have K2 := Lib.hid k2; clear hr k2)
      refine wp_label ?_
      rcases Nat.lt_trichotomy n 4 with h4 | h4 | h4
      · obtain rfl : mn = n := by omega
        have h4i : (mn : Int) < 4 := by omega
        have mk := make_zeros mn (by omega)
        clear hmn hmi
        go_wp2_with fail
        try rw [Exit.noGoto_ret]
        go_ret
        rw [ET.out]
        exact ⟨_, rfl, rowZ w2 mn (by omega), H2.out.ext ((Ext.refl _).alloc _), Keep.ext K2.out ((Ext.refl _).alloc _)⟩
      · obtain rfl : n = 4 := h4
        obtain rfl : mn = 4 := by omega
        have mk : ∀ W2, (Instr.makeSlice 79 (.int .i64 4) (.int .i64 4)).run Tryz.prog W2 = .ok (.slice (some ⟨W2.heap.size, 0, none⟩) 4 4) (W2.alloc (.cells (Array.replicate 4 (.int .u8 0)) 5)) := fun W2 => make_zeros 4 (by omega) W2
        have mk2 := make_zeros 4 (by omega)
        clear hmn hmi
        go_wp2_with fail
        try rw [Exit.noGoto_ret]
        go_ret
        rw [ET.out]
        exact ⟨_, rfl, rowZ w2 4 (by omega), H2.out.ext ((Ext.refl _).alloc _), Keep.ext K2.out ((Ext.refl _).alloc _)⟩
      · obtain rfl : mn = 4 := by omega
        have h4i : ¬ (n : Int) < 4 := by omega
        have h4j : (4 : Int) < (n : Int) := by omega
        have mk : ∀ W2, (Instr.makeSlice 79 (.int .i64 4) (.int .i64 4)).run Tryz.prog W2 = .ok (.slice (some ⟨W2.heap.size, 0, none⟩) 4 4) (W2.alloc (.cells (Array.replicate 4 (.int .u8 0)) 5)) := fun W2 => make_zeros 4 (by omega) W2
        clear hmn hmi
        go_wp2_with fail
        try rw [Exit.noGoto_ret]
        go_ret
        rw [ET.out]
        exact ⟨_, rfl, rowZ w2 4 (by omega), H2.out.ext ((Ext.refl _).alloc _), Keep.ext K2.out ((Ext.refl _).alloc _)⟩
  · have e0 : (se == 0) = false := beq_eq_false_iff_ne.2 h0
    have e1 : (se != 0) = true := by simp [h0]
    have ET : Hid (takeR n ⟨bs, se⟩ = (List.replicate mn 0, ⟨bs, se⟩)) := Lib.hid (by unfold takeR; rw [if_neg h0, MN.out])
    clear h0
    go_enter Tryz.func69, Tryz.ntmps69
    go_wp2_with fail
    refine wp_scope_jumps 0 (fun a' w' => w' = w ∧ ∃ u : Nat → Value, a' = { tmps := #[.pointer (some ⟨g, 0, none⟩), .int .i64 (n : Int), u 2, u 3, u 4, u 5, u 6, u 7, u 8, u 9, u 10, u 11, u 12, u 13, u 14, u 15, u 16, u 17, u 18, u 19, u 20, u 21, u 22, u 23, u 24, u 25, u 26, u 27, u 28, u 29, u 30, u 31, u 32, u 33, u 34, u 35, u 36, u 37, u 38], defers := [] }) (fun _ _ => 0) rfl ?_ ?_
    · go_wp2_with fail
      go_step3
      exact ⟨rfl, rfl, fun q => ({ tmps := #[.pointer (some ⟨g, 0, none⟩), .int .i64 (n : Int), undef, undef, .slice none 0 0, undef, .pointer (some ⟨g, 0, none⟩), .pointer (some ⟨g, 0, none⟩), .pointer (some ⟨g, 1, none⟩), .int .i64 se, .bool true, undef, undef, undef, undef, undef, undef, undef, undef, undef, undef, undef, undef, undef, undef, undef, undef, undef, undef, undef, undef, undef, undef, undef, undef, undef, undef, undef, undef], defers := [] } : Act).tmps.getD q undef, rfl⟩
    · rintro a' w' ⟨rfl, u, rfl⟩
      rcases Nat.lt_trichotomy n 4 with h4 | h4 | h4
      · obtain rfl : mn = n := by omega
        have h4i : (mn : Int) < 4 := by omega
        have mk := make_zeros mn (by omega)
        clear hmn hmi
        go_wp2_with fail
        try simp only [Exit.jump]
        go_ret
        rw [ET.out]
        exact ⟨_, rfl, rowZ w' mn (by omega), HH.out.ext ((Ext.refl _).alloc _), Keep.ext (Keep.refl _ _) ((Ext.refl _).alloc _)⟩
      · obtain rfl : n = 4 := h4
        obtain rfl : mn = 4 := by omega
        have mk : ∀ W2, (Instr.makeSlice 79 (.int .i64 4) (.int .i64 4)).run Tryz.prog W2 = .ok (.slice (some ⟨W2.heap.size, 0, none⟩) 4 4) (W2.alloc (.cells (Array.replicate 4 (.int .u8 0)) 5)) := fun W2 => make_zeros 4 (by omega) W2
        have mk2 := make_zeros 4 (by omega)
        clear hmn hmi
        go_wp2_with fail
        try simp only [Exit.jump]
        go_ret
        rw [ET.out]
        exact ⟨_, rfl, rowZ w' 4 (by omega), HH.out.ext ((Ext.refl _).alloc _), Keep.ext (Keep.refl _ _) ((Ext.refl _).alloc _)⟩
      · obtain rfl : mn = 4 := by omega
        have h4i : ¬ (n : Int) < 4 := by omega
        have h4j : (4 : Int) < (n : Int) := by omega
        have mk : ∀ W2, (Instr.makeSlice 79 (.int .i64 4) (.int .i64 4)).run Tryz.prog W2 = .ok (.slice (some ⟨W2.heap.size, 0, none⟩) 4 4) (W2.alloc (.cells (Array.replicate 4 (.int .u8 0)) 5)) := fun W2 => make_zeros 4 (by omega) W2
        clear hmn hmi
        go_wp2_with fail
        try simp only [Exit.jump]
        go_ret
        rw [ET.out]
        exact ⟨_, rfl, rowZ w' 4 (by omega), HH.out.ext ((Ext.refl _).alloc _), Keep.ext (Keep.refl _ _) ((Ext.refl _).alloc _)⟩
end
end Go.Proofs.YtjpalcejmloocaaGreat.World
