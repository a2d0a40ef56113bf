/-
  The walk of GreyPlays (chapter 9).
-/
import Derived.Test.YtgfgmhfggbfeeaaGreyRef
import Derived.Test.YtgfgmhfggbfeeaaShell
import Derived.Deep.RegionHeld3
import Derived.Deep.DrawnRows
namespace Go.Proofs.Ytgfgmhfggbfeeaa.GreyLaws
open Go.RowKit Go.Proofs.Ytgfgmhfggbfeeaa.Plain Go.Proofs.Ytgfgmhfggbfeeaa.Word Go.Proofs.Ytgfgmhfggbfeeaa.Grey
set_option linter.unusedVariables false
attribute [local go_sem ↓] Go.wp_at_zero Go.wp_at_succ

structure Both (w wr : World) (B G K : Nat) (v : Value) (L : List Int) (ov : Bool) : Prop where
  stk : Stk wr B L K ov
  rs : IsRS wr G v L K ov
  ext : Ext w wr
  le : w.heap.size ≤ B
  lt : B < G
theorem Both.more {w wr wx : World} {B G K : Nat} {v : Value} {L : List Int} {ov : Bool} (h : Both w wr B G K v L ov) (x : Ext wr wx) : Both w wx B G K v L ov :=
  ⟨h.stk.ext x, h.rs.ext x, h.ext.trans x, h.le, h.lt⟩
theorem Both.one {w wr w2 : World} {B G K : Nat} {v : Value} {L : List Int} {ov : Bool} (h : Both w wr B G K v L ov) (k : Keep (· = B) wr w2) :
    IsRS w2 G v L K ov ∧ Ext w w2 :=
  ⟨h.rs.keep k (fun j hj e => by have := h.lt; omega), ((Keep.of_ext h.ext _).trans k).toExt (fun j hj e => by have := h.le; omega)⟩
theorem Both.two {w wr w2 w3 : World} {B G K : Nat} {v v' : Value} {L L' : List Int} {ov ov' : Bool} (h : Both w wr B G K v L ov) (k2 : Keep (· = B) wr w2) (s : Stk w2 B L' K ov')
    (k : Keep (fun j => j = G ∨ v.ownBlock = some j) w2 w3) (r : IsRS w3 G v' L' K ov') : Both w w3 B G K v' L' ov' := by
  obtain ⟨hr, hx⟩ := h.one k2
  have ho : ∀ j, v.ownBlock = some j → G + 1 ≤ j := fun j hj => (hr.own.lt j hj).1
  have hlt := h.lt
  have hle := h.le
  refine ⟨s.keep k ?_, r, ((Keep.of_ext hx _).trans k).toExt ?_, hle, hlt⟩
  · rintro (h | h)
    · omega
    · have := ho _ h; omega
  · rintro j hj (h | h)
    · omega
    · have := ho _ h; omega
theorem keep_cell {wr w2 : World} {b i : Nat} {S : Nat → Prop} (k : Keep S wr w2) (hb : b < wr.heap.size) (hs : ¬ S b) : w2.cell? ⟨b, i, none⟩ = wr.cell? ⟨b, i, none⟩ := World.cell?_of_block (k.block b hb hs)

theorem IsRS.set2 {w : World} {g : Nat} {v : Value} {L : List Int} {m : Nat} {o : Bool} (h : IsRS w g v L m o) (b : Bool) : IsRS (w.setCell ⟨g, 2, none⟩ (.bool b)) g v L m b :=
  ⟨h.blk.set 2 (.bool b), own_keep h.own ((Keep.refl (· = g) w).setCell (p := ⟨g, 2, none⟩) rfl _) (fun j hj h => by omega)⟩
theorem calls_name {P : Program} {f : FuncId} {args : Array Value} {w : World} {Q : Ending → World → Prop} (h : ∀ W, W = w → Calls P f args W Q) : Calls P f args w Q := h w rfl
def OpRow (w : World) (a : Option Addr) (len : Nat) (zs ys : Nat → Int) : Prop :=
  len ≤ 9223372036854775807 ∧ ∀ i, i < len → ∃ b off, a = some ⟨b, off, none⟩ ∧ b < w.heap.size ∧ w.cell? ⟨b, off + i * 2, none⟩ = some (.int .i64 (zs i)) ∧ w.cell? ⟨b, off + i * 2 + 1, none⟩ = some (.int .i64 (ys i)) ∧
    -9223372036854775808 ≤ zs i ∧ zs i ≤ 9223372036854775807 ∧ -9223372036854775808 ≤ ys i ∧ ys i ≤ 9223372036854775807
theorem mod5' (x : Int) : x % 5 = 0 ∨ x % 5 = 1 ∨ x % 5 = 2 ∨ x % 5 = 3 ∨ x % 5 = 4 := by omega

set_option maxRecDepth 100000 in
set_option maxHeartbeats 4000000 in
theorem plays_core (a0 : Int) (a1 : Option Addr) (len cap : Nat) (zs ys : Nat → Int) (w : World) (hr : OpRow w a1 len zs ys) (K : Nat) (hK : clampM a0 = (K : Int)) (hK2 : (clampM a0).toNat = K) (K1 : 1 ≤ K) (K2 : K ≤ 100) :
    Calls Try.prog 10 #[.int .i64 a0, .slice a1 len cap] w fun e w' => e = .returned (.bool true) ∧ Below w.heap.size w w' := by
  obtain ⟨hl, hr⟩ := hr
  have HR := Lib.hid hr
  have HK := Lib.hid hK
  have HK2 := Lib.hid hK2
  clear hr hK hK2
  go_enter Try.func10, Try.ntmps10
  go_wp2_with fail
  refine (new_stk _ _).mono ?_
  rintro e w1 ⟨rfl, s1, xx1⟩
  rw [HK2.out] at s1
  go_wp2_with fail
  refine (rnew _ _ K HK.out).mono ?_
  rintro e w2 ⟨rfl, r2, xx2⟩
  have hb0 : Both w w2 w.heap.size w1.heap.size K (.slice none 0 0) [] false := ⟨s1.ext xx2, r2, xx1.trans xx2, Nat.le_refl _, s1.lt⟩
  clear s1 r2
  generalize w1.heap.size = G at hb0 ⊢
  go_wp2_with fail
  go_loopw [7] (fun i wr => ∃ (k : Nat) (L : List Int) (ov : Bool) (v : Value), k ≤ len ∧ i = .int .i64 k ∧ Both w wr w.heap.size G K v L ov) (fun i _ => len - (intOf i).toNat)
  case atStart => exact ⟨0, [], false, _, Nat.zero_le _, rfl, hb0⟩
  case round =>
    obtain ⟨k, L, ov, v, hk, rfl, hm⟩ := hrel
    have hle := hm.stk.le
    by_cases hlt : k < len
    · by_cases hlt2 : k < 300
      · obtain ⟨b, off, rfl, hb, hc, hd, bx1, bx2, by1, by2⟩ := HR.out k (by omega)
        have hc' := hm.ext.below.cell (p := ⟨b, off + k * 2, none⟩) hb
        have hd' := hm.ext.below.cell (p := ⟨b, off + k * 2 + 1, none⟩) hb
        rw [hc] at hc'
        rw [hd] at hd'
        clear hc hd
        generalize zs k = x at hc' bx1 bx2
        generalize ys k = y at hd' by1 by2
        by_cases h5 : x % 5 < 3
        · go_wp2_with (go_at_call 16; refine (place _ _ _ (by omega) (by omega) (by omega) (by omega)).mono ?_; rintro e w' ⟨rfl, rfl⟩)
          refine wp_name (fun W hW => ?_)
          have hm2 : Both w W.drew w.heap.size G K v L ov := hm.more (((Ext.refl wr).alloc' hW).drew)
          have cy : W.cell? ⟨wr.heap.size, 1, none⟩ = some (.int .i64 y) := by rw [hW]; exact (Blk.new wr _ _).cell 1
          have szW : W.heap.size = wr.heap.size + 1 := by rw [hW]; simp
          have nW : wr.heap.size < W.drew.heap.size := by have e : W.drew.heap.size = W.heap.size := rfl; omega
          have n1 : ¬ wr.heap.size = w.heap.size := by have := hm.stk.lt; omega
          have n2 : ¬ (wr.heap.size = G ∨ v.ownBlock = some wr.heap.size) := by
            rintro (h | h)
            · have := hm.rs.blk.lt; omega
            · have := (hm.rs.own.lt _ h).2; omega
          clear hW szW
          by_cases hf : L.length < K
          · go_region_held3 (fun w' => w'.cell? ⟨wr.heap.size, 1, none⟩ = some (.int .i64 y)) (first | exact cy | exact c2 | exact c3) (first | (go_at_call 33; refine (push_y hm2.stk hf _).mono ?_; rintro e w2 ⟨rfl, s2, k2⟩; have c2 := (keep_cell (i := 1) k2 nW n1).trans cy) | (go_at_call 34; refine (rpush_y (hm2.one k2).1 hf K2 _).mono ?_; rintro e w3 ⟨rfl, ⟨v', r3⟩, k3⟩; have c3 := (keep_cell (i := 1) k3 (Nat.lt_of_lt_of_le nW k2.size) n2).trans c2))
            have m3 := hm2.two k2 s2 k3 r3
            obtain ⟨A', c', rfl⟩ := own_form m3.rs.own
            obtain ⟨q1, q2, q3⟩ := m3.rs.blk.rules
            clear k2 s2 k3 r3 c2 c3 hm2 nW n1 n2 cy
            cases ov
            all_goals
              go_wp2_with fail
              refine wp_region_ext (by kernel_rfl) (by kernel_rfl) ?_
              repeat (go_big_quiet_step ((first | (go_at_call 38; exact calls_same (len_stk (m3.more ⟨_, rfl⟩).stk)) | (go_at_call 39; exact calls_same (over_stk (m3.more ⟨_, rfl⟩).stk)))))
              refine wpQuiet_nil ?_
              rintro W4 ⟨xx, hW4⟩
              have m4 := m3.more ⟨xx, hW4⟩
              clear hW4
              go_wp2_with fail
              go_roundw
              case rel => exact ⟨k + 1, _, _, _, by omega, by go_num, m4⟩
              case measure => simp [intOf]; omega
          · go_region_held3 (fun w' => w'.cell? ⟨wr.heap.size, 1, none⟩ = some (.int .i64 y)) (first | exact cy | exact c2 | exact c3) (first | (go_at_call 33; refine (push_n hm2.stk hf _).mono ?_; rintro e w2 ⟨rfl, s2, k2⟩; have c2 := (keep_cell (i := 1) k2 nW n1).trans cy) | (go_at_call 34; refine (rpush_n (hm2.one k2).1 hf K2 (by omega) _).mono ?_; rintro e w3 ⟨rfl, ⟨v', r3⟩, k3⟩; have c3 := (keep_cell (i := 1) k3 (Nat.lt_of_lt_of_le nW k2.size) n2).trans c2))
            have m3 := hm2.two k2 s2 k3 r3
            obtain ⟨A', c', rfl⟩ := own_form m3.rs.own
            obtain ⟨q1, q2, q3⟩ := m3.rs.blk.rules
            clear k2 s2 k3 r3 c2 c3 hm2 nW n1 n2 cy
            cases ov
            all_goals
              go_wp2_with fail
              refine wp_region_ext (by kernel_rfl) (by kernel_rfl) ?_
              repeat (go_big_quiet_step ((first | (go_at_call 38; exact calls_same (len_stk (m3.more ⟨_, rfl⟩).stk)) | (go_at_call 39; exact calls_same (over_stk (m3.more ⟨_, rfl⟩).stk)))))
              refine wpQuiet_nil ?_
              rintro W4 ⟨xx, hW4⟩
              have m4 := m3.more ⟨xx, hW4⟩
              clear hW4
              go_wp2_with fail
              go_roundw
              case rel => exact ⟨k + 1, _, _, _, by omega, by go_num, m4⟩
              case measure => simp [intOf]; omega
        by_cases h6 : x % 5 = 3
        · rcases nil_or_snoc L with rfl | ⟨M, z, rfl⟩
          · go_wp2_with (go_at_call 16; refine (place _ _ _ (by omega) (by omega) (by omega) (by omega)).mono ?_; rintro e w' ⟨rfl, rfl⟩)
            refine calls_name (fun W hW => ?_)
            have m3 : Both w W w.heap.size G K v [] ov := hm.more (((Ext.refl wr).alloc' hW))
            clear hW
            refine (pop_n m3.stk).mono ?_
            rintro e w2 ⟨rfl, rfl⟩
            go_wp2_with fail
            refine (rpop_n m3.rs).mono ?_
            rintro e w2 ⟨rfl, rfl⟩
            obtain ⟨A', c', rfl⟩ := own_form m3.rs.own
            obtain ⟨q1, q2, q3⟩ := m3.rs.blk.rules
            cases ov
            all_goals
              go_wp2_with fail
              refine wp_region_ext (by kernel_rfl) (by kernel_rfl) ?_
              repeat (go_big_quiet_step ((first | (go_at_call 38; exact calls_same (len_stk (m3.more ⟨_, rfl⟩).stk)) | (go_at_call 39; exact calls_same (over_stk (m3.more ⟨_, rfl⟩).stk)))))
              refine wpQuiet_nil ?_
              rintro W4 ⟨xx, hW4⟩
              have m4 := m3.more ⟨xx, hW4⟩
              clear hW4
              go_wp2_with fail
              go_roundw
              case rel => exact ⟨k + 1, _, _, _, by omega, by go_num, m4⟩
              case measure => simp [intOf]; omega
          · go_wp2_with (go_at_call 16; refine (place _ _ _ (by omega) (by omega) (by omega) (by omega)).mono ?_; rintro e w' ⟨rfl, rfl⟩)
            refine calls_name (fun W hW => ?_)
            have hm2 : Both w W w.heap.size G K v (M ++ [z]) ov := hm.more (((Ext.refl wr).alloc' hW))
            clear hW
            have hle2 : M.length ≤ 100 := by simp at hle; omega
            refine (pop_y hm2.stk).mono ?_
            rintro e w2 ⟨rfl, s2, k2⟩
            go_wp2_with fail
            refine (rpop_y (hm2.one k2).1 hle2).mono ?_
            rintro e w3 ⟨rfl, ⟨v', r3⟩, k3⟩
            have m3 := hm2.two k2 s2 k3 r3
            obtain ⟨A', c', rfl⟩ := own_form m3.rs.own
            obtain ⟨q1, q2, q3⟩ := m3.rs.blk.rules
            clear k2 s2 k3 r3 hm2
            cases ov
            all_goals
              go_wp2_with fail
              refine wp_region_ext (by kernel_rfl) (by kernel_rfl) ?_
              repeat (go_big_quiet_step ((first | (go_at_call 38; exact calls_same (len_stk (m3.more ⟨_, rfl⟩).stk)) | (go_at_call 39; exact calls_same (over_stk (m3.more ⟨_, rfl⟩).stk)))))
              refine wpQuiet_nil ?_
              rintro W4 ⟨xx, hW4⟩
              have m4 := m3.more ⟨xx, hW4⟩
              clear hW4
              go_wp2_with fail
              go_roundw
              case rel => exact ⟨k + 1, _, _, _, by omega, by go_num, m4⟩
              case measure => simp [intOf]; omega
        · have h5' : decide (x % 5 < 3) = false := by simpa using h5
          have h6' : (x % 5 == 3) = false := by simpa using h6
          clear h5 h6
          go_wp2_with (go_at_call 16; refine (place _ _ _ (by omega) (by omega) (by omega) (by omega)).mono ?_; rintro e w' ⟨rfl, rfl⟩)
          refine calls_name (fun W hW => ?_)
          have hm2 : Both w W w.heap.size G K v L ov := hm.more (((Ext.refl wr).alloc' hW))
          clear hW
          refine (clear_stk hm2.stk).mono ?_
          rintro e w2 ⟨rfl, s2, k2⟩
          obtain ⟨r2, x2⟩ := hm2.one k2
          have m3 := hm2.two k2 s2 ((Keep.refl _ w2).setCell (p := ⟨G, 2, none⟩) (.inl rfl) (.bool false)) (r2.set2 false)
          obtain ⟨q1, q2, q3⟩ := r2.blk.rules
          go_wp2_with fail
          clear q1 q2 q3
          refine wp_name (fun W3 hW3 => ?_)
          rw [← hW3] at m3
          clear hW3 k2 s2 r2 x2 hm2
          obtain ⟨A', c', rfl⟩ := own_form m3.rs.own
          obtain ⟨q1, q2, q3⟩ := m3.rs.blk.rules
          refine wp_region_ext (by kernel_rfl) (by kernel_rfl) ?_
          repeat (go_big_quiet_step ((first | (go_at_call 38; exact calls_same (len_stk (m3.more ⟨_, rfl⟩).stk)) | (go_at_call 39; exact calls_same (over_stk (m3.more ⟨_, rfl⟩).stk)))))
          refine wpQuiet_nil ?_
          rintro W4 ⟨xx, hW4⟩
          have m4 := m3.more ⟨xx, hW4⟩
          clear hW4
          go_wp2_with fail
          go_roundw
          case rel => exact ⟨k + 1, _, _, _, by omega, by go_num, m4⟩
          case measure => simp [intOf]; omega
      · go_wp2_with fail
        refine (awake _).mono ?_
        rintro e w3 ⟨rfl, x3⟩
        go_wp2_with fail
        go_ret
        exact ⟨rfl, (hm.ext.trans x3).below⟩
    · go_wp2_with fail
      refine (awake _).mono ?_
      rintro e w3 ⟨rfl, x3⟩
      go_wp2_with fail
      go_ret
      exact ⟨rfl, (hm.ext.trans x3).below⟩
theorem greyPlays {H : Type} {enc : TypeId × Value → H} {r : Reach} {b0 : Nat} {d : DataW H} {p : List MemPlace} (a0 : Int) (v1 : Value) (w : World) (w0 : (Lit.int .i64 a0).wf = true)
    (hv : Value.okWide Try.prog w r b0 46 v1) (h : DataW.Trod enc Try.prog w 0 (fun _ => true) true 46 v1 d p) :
    Calls Try.prog 10 #[.int .i64 a0, v1] w fun e w' => e = .returned (.bool true) ∧ Below w.heap.size w w' := by
  obtain ⟨a, len, cap, zs, rfl, hl, hn⟩ := Shell.open_nums Try.underlying46 Try.underlying52 (by kernel_rfl) (by kernel_rfl) (fun _ => .i64) (fun j f hj => by
    rcases j with _ | _ | j <;> simp at hj <;> subst hj <;> exact Try.underlying3) (by decide) hv h
  unfold maxLen at hl
  have hc : 1 ≤ clampM a0 ∧ clampM a0 ≤ 100 := by unfold clampM; split <;> (try split) <;> omega
  refine plays_core a0 a len cap (fun i => zs i 0) (fun i => zs i 1) w ⟨hl, fun i hi => ?_⟩ (clampM a0).toNat (by omega) rfl (by omega) (by omega)
  obtain ⟨b, off, h1, h2, h3⟩ := hn i hi
  obtain ⟨c0, f0⟩ := h3 0 (by decide)
  obtain ⟨c1, f1⟩ := h3 1 (by decide)
  obtain ⟨x1, x2⟩ := bounds_i64 f0
  obtain ⟨y1, y2⟩ := bounds_i64 f1
  exact ⟨b, off, h1, h2, c0, c1, x1, x2, y1, y2⟩
end Go.Proofs.Ytgfgmhfggbfeeaa.GreyLaws
