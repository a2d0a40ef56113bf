/-
  The walk of GreyMixed (chapter 9).
-/
import Derived.Test.YtgfgmhfggbfeeaaGreyLaws
import Derived.WalkSmall
import Derived.OwnWalk
import Derived.Laws.OwnMore
import Derived.Deep.AppendLies
namespace Go.Proofs.Ytgfgmhfggbfeeaa.GreyLaws
open Go.RowKit Go.Proofs.Ytgfgmhfggbfeeaa.Plain Go.Proofs.Ytgfgmhfggbfeeaa.Word Go.Proofs.Ytgfgmhfggbfeeaa.Grey
set_option linter.unusedVariables false

theorem own_keep {w w' : World} {S : Nat → Prop} {base : Nat} {e : TypeId} {size : Nat} {v : Value} {n : Nat} {xs : List Value} (h : w.ownsRow base e size v n xs) (k : Keep S w w') (hs : ∀ g, base ≤ g → ¬ S g) : w'.ownsRow base e size v n xs := by
  refine ⟨h.1, ?_⟩
  rcases h.2 with hn | ⟨g, cap, cur, rfl, hb, hgg, rest⟩
  · exact .inl hn
  · refine .inr ⟨g, cap, cur, rfl, hb, ?_, rest⟩
    rw [k.block g (Array.getElem?_eq_some_iff.1 hgg).1 (hs g hb)]
    exact hgg
theorem keep_grown {w w' : World} {row : Option Nat} (h : w.grownBy w' row) : Keep (fun k => some k = row) w w' :=
  ⟨h.os, h.tape, h.output, h.size, fun k hk hn => h.block k hk hn⟩
theorem keep_own {w w' w0 : World} {base : Nat} {e : TypeId} {size : Nat} {v : Value} {n : Nat} {xs : List Value} {S : Nat → Prop} (h : w.ownsRow base e size v n xs) (hg : w.grownBy w' v.ownBlock) (hs : ∀ k, base ≤ k → S k) : Keep S w w' :=
  (keep_grown hg).mono (fun k hk => hs k (h.lt k hk.symm).1)
theorem own_last {w : World} {base : Nat} {e : TypeId} {v : Value} {L : List Int} {x : Int} (h : w.ownsRow base e 1 v (L ++ [x]).length ((L ++ [x]).map (Value.int .i64))) :
    ∃ g cap, v = .slice (some ⟨g, 0, none⟩) (L.length + 1) cap ∧ base ≤ g ∧ L.length + 1 ≤ cap ∧ cap ≤ maxLen ∧ w.cell? ⟨g, L.length, none⟩ = some (.int .i64 x) ∧ w.ownsRow base e 1 (.slice (some ⟨g, 0, none⟩) L.length cap) L.length (L.map (Value.int .i64)) := by
  have h' := h
  obtain ⟨_, h2⟩ := h
  rcases h2 with ⟨_, h0⟩ | ⟨g, cap, cur, hv, hg, hh, hn, hcap, hsz, htake⟩
  · simp at h0
  · subst hv
    simp only [List.length_append, List.length_singleton] at h' hn ⊢
    refine ⟨g, cap, rfl, hg, hn, hcap, ?_, ?_⟩
    · rw [h'.cellAt L.length (by omega)]
      simp
    · rw [List.map_append] at h'
      exact ownsRow_pop (by simp) h'
theorem info3 : (Try.prog.info? 3).map (fun i => (i.zero, i.size, i.bytes)) = some (some (.int .i64 0), 1, 8) := by kernel_rfl
theorem nil_or_snoc {α : Type} (L : List α) : L = [] ∨ ∃ (M : List α) (y : α), L = M ++ [y] := by
  rcases List.eq_nil_or_concat L with h | ⟨M, y, h⟩
  · exact .inl h
  · exact .inr ⟨M, y, by rw [h, List.concat_eq_append]⟩
theorem mod5 (x : Int) : x % 5 = 0 ∨ x % 5 = 1 ∨ x % 5 = 2 ∨ x % 5 = 3 ∨ x % 5 = 4 := by omega

theorem news1 (W : World) (y : Value) (t : TypeId) : ∀ j u, [y][j]? = some u → (W.alloc (.cells #[y] t)).cell? ((⟨W.heap.size, 0, none⟩ : Addr).add j) = some u := by
  intro j u h
  rcases j with _ | j
  · have := (Blk.new W t #[y]).cell 0
    simp at h
    subst h
    exact this
  · simp at h
theorem own_form {w : World} {base : Nat} {e : TypeId} {size : Nat} {v : Value} {n : Nat} {xs : List Value} (h : w.ownsRow base e size v n xs) : ∃ A c, v = .slice A n c := by
  rcases h.2 with ⟨rfl, rfl⟩ | ⟨g, cap, cur, rfl, _⟩
  · exact ⟨none, 0, rfl⟩
  · exact ⟨_, _, rfl⟩
theorem int_one (x : Int) : ∀ u ∈ [Value.int .i64 x], u.oneCell' = true := by simp [Value.oneCell']

structure Mix (w wr : World) (B K : Nat) (v : Value) (L : List Int) (ov : Bool) : Prop where
  stk : Stk wr B L K ov
  own : wr.ownsRow (B + 1) 3 1 v L.length (L.map (Value.int .i64))
  ext : Ext w wr
  le : w.heap.size ≤ B
theorem Mix.push {w wr w' : World} {B K : Nat} {v : Value} {L L' : List Int} {ov ov' : Bool} (h : Mix w wr B K v L ov) (k : Keep (· = B) wr w') (s : Stk w' B L' K ov') :
    Ext w w' ∧ w'.ownsRow (B + 1) 3 1 v L.length (L.map (Value.int .i64)) :=
  ⟨((Keep.of_ext h.ext _).trans k).toExt (fun j hj => by have := h.le; intro h; omega), own_keep h.own k (fun g hg => by intro h; omega)⟩

theorem Mix.append {w wr w2 w3 : World} {B K : Nat} {v v' : Value} {L : List Int} {ov : Bool} {y : Int} {o : Obj} (h : Mix w wr B K v L ov) (e2 : Ext w w2) (s2 : Stk w2 B (L ++ [y]) K ov) (o2 : w2.ownsRow (B + 1) 3 1 v L.length (L.map (Value.int .i64)))
    (g3 : (w2.alloc o).grownBy w3 v.ownBlock) (o3 : w3.ownsRow (B + 1) 3 1 v' (L.length + 1) (L.map (Value.int .i64) ++ [.int .i64 y])) : Mix w w3 B K v' (L ++ [y]) ov := by
  have k3 : Keep (fun k => B + 1 ≤ k) (w2.alloc o) w3 := (keep_grown g3).mono (fun k hk => (o2.lt k hk.symm).1)
  have k4 : Keep (fun k => B + 1 ≤ k) w2 w3 := ((Keep.refl _ w2).alloc o).trans k3
  refine ⟨s2.keep k4 (by omega), by simpa using o3, ?_, h.le⟩
  exact ((Keep.of_ext e2 _).trans k4).toExt (fun j hj => by have := h.le; intro h; omega)
theorem Mix.other {w wr w2 : World} {B K : Nat} {v : Value} {L : List Int} {ov ov' : Bool} (h : Mix w wr B K v L ov) (k2 : Keep (· = B) wr w2) (s2 : Stk w2 B L K ov') : Mix w w2 B K v L ov' :=
  ⟨s2, (h.push k2 s2).2, (h.push k2 s2).1, h.le⟩
set_option maxRecDepth 100000 in
set_option maxHeartbeats 4000000 in
theorem mixed_core (a0 : Int) (a1 : Option Addr) (len cap : Nat) (zs : List Int) (w : World) (x1 : -9223372036854775808 ≤ a0) (x2 : a0 ≤ 9223372036854775807)
    (hr : ∀ i, i < len → ∃ b off, a1 = some ⟨b, off, none⟩ ∧ b < w.heap.size ∧ w.cell? ⟨b, off + i, none⟩ = some (.int .i64 (zs.getD i 0)) ∧ -9223372036854775808 ≤ zs.getD i 0 ∧ zs.getD i 0 ≤ 9223372036854775807) (hz : len ≤ zs.length) (hl : len ≤ 9223372036854775807)
    (K : Nat) (hK : 1 + a0 % 20 = (K : Int)) (hcl : (clampM (K : Int)).toNat = K) (K1 : 1 ≤ K) (K2 : K ≤ 20) :
    Calls Try.prog 12 #[.int .i64 a0, .slice a1 len cap] w fun e w' => e = .returned (.bool true) ∧ Below w.heap.size w w' := by
  have HR := Lib.hid hr
  have HC := Lib.hid hcl
  clear hr hcl
  obtain ⟨i0, hi, hz0, hz1, hz2⟩ := info_parts info3
  go_enter Try.func12, Try.ntmps12
  go_wp2_with (go_at_call 16; refine (place _ _ _ (by omega) (by omega) (by omega) (by omega)).mono ?_; rintro e w' ⟨rfl, rfl⟩)
  refine (new_stk _ _).mono ?_
  rintro e w1 ⟨rfl, s1, xx1⟩
  rw [HC.out] at s1
  go_wp2_with fail
  go_loopw [7, 8, 9] (fun v o i wr => ∃ (k : Nat) (L : List Int) (ov : Bool) (A : Option Addr) (c : Nat), k ≤ len ∧ i = .int .i64 k ∧ o = .bool ov ∧ v = .slice A L.length c ∧ Mix w wr w.heap.size K v L ov) (fun _ _ i _ => len - (intOf i).toNat)
  case atStart => exact ⟨0, [], false, none, 0, Nat.zero_le _, rfl, rfl, rfl, s1, World.ownsRow_nil _ _ _ _, xx1, Nat.le_refl _⟩
  case round =>
    obtain ⟨k, L, ov, A, c, hk, rfl, rfl, rfl, hm⟩ := hrel
    have hle := hm.stk.le
    by_cases hlt : k < len
    · by_cases hlt2 : k < 200
      · obtain ⟨b, off, rfl, hb, hc, bx1, bx2⟩ := HR.out k (by omega)
        have hc' := hm.ext.below.cell (p := ⟨b, off + k, none⟩) hb
        rw [hc] at hc'
        clear hc
        generalize zs.getD k 0 = x at hc' bx1 bx2
        rcases mod5 (x % 1000) with h5 | h5 | h5 | h5 | h5
        iterate 3
          by_cases hf : L.length < K
          · have d1 : decide ((L.length : Int) < (K : Int)) = true := by simpa using hf
            go_wp2_with (go_at_call 16; refine (place _ _ _ (by omega) (by omega) (by omega) (by omega)).mono ?_; rintro e w' ⟨rfl, rfl⟩)
            refine (push_y hm.stk hf _).mono ?_
            rintro e w2 ⟨rfl, s2, k2⟩
            obtain ⟨e2, o2⟩ := hm.push k2 s2
            have sz2 := s2.lt
            cases ov
            all_goals
              go_wp2_with (at_builtin; refine wpList_append_own _ rfl _ _ 54 rfl (w.heap.size + 1) 3 i0 (.int .i64 0) 1 8 Try.underlying54 hi hz0 hz1 hz2 rfl (by decide) _ _ _ rfl (o2.alloc _) ⟨w2.heap.size, 0, none⟩ 1 1 [.int .i64 (x % 1000)] rfl rfl (news1 _ _ _) (int_one _) (by unfold maxLen; omega) (by omega) (by simp; omega) ?_; intro v' w3 o3 g3 _)
              have m3 := hm.append e2 s2 o2 g3 o3
              obtain ⟨A', c', rfl⟩ := own_form o3
              go_wp2_with fail
              refine (len_stk m3.stk).mono ?_
              rintro e w4 ⟨rfl, rfl⟩
              have el : ((L ++ [x % 1000]).length : Int) = (L.length : Int) + 1 := by simp
              go_wp2_with fail
              refine (over_stk m3.stk).mono ?_
              rintro e w4 ⟨rfl, rfl⟩
              go_wp2_with fail
              go_roundw
              case rel => exact ⟨k + 1, L ++ [x % 1000], _, A', c', by omega, by go_num, rfl, by simp, m3⟩
              case measure => simp [intOf]; omega
          · have d1 : decide ((L.length : Int) < (K : Int)) = false := by simpa using hf
            go_wp2_with (go_at_call 16; refine (place _ _ _ (by omega) (by omega) (by omega) (by omega)).mono ?_; rintro e w' ⟨rfl, rfl⟩)
            refine (push_n hm.stk hf _).mono ?_
            rintro e w2 ⟨rfl, s2, k2⟩
            have m2 := hm.other k2 s2
            cases ov
            all_goals
              go_wp2_with fail
              refine (len_stk m2.stk).mono ?_
              rintro e w4 ⟨rfl, rfl⟩
              go_wp2_with fail
              refine (over_stk m2.stk).mono ?_
              rintro e w4 ⟨rfl, rfl⟩
              go_wp2_with fail
              go_roundw
              case rel => exact ⟨k + 1, L, _, A, c, by omega, by go_num, rfl, rfl, m2⟩
              case measure => simp [intOf]; omega
        · rcases nil_or_snoc L with rfl | ⟨L, y, rfl⟩
          · have ho := hm.own
            obtain ⟨hA, hcm⟩ : (A = none ∧ c = 0 ∨ ∃ g, A = some ⟨g, 0, none⟩) ∧ c ≤ 9223372036854775807 := by
              rcases ho.2 with ⟨h, _⟩ | ⟨g, cap', cur, h, _, _, _, hc', _⟩
              · injection h with h1 h2 h3; exact ⟨.inl ⟨h1, h3⟩, by omega⟩
              · injection h with h1 h2 h3; unfold maxLen at hc'; exact ⟨.inr ⟨g, h1⟩, by omega⟩
            clear ho
            simp only [List.length_nil]
            rcases hA with ⟨rfl, rfl⟩ | ⟨g, rfl⟩
            all_goals
              go_wp2_with (go_at_call 16; refine (place _ _ _ (by omega) (by omega) (by omega) (by omega)).mono ?_; rintro e w' ⟨rfl, rfl⟩)
              refine (pop_n hm.stk).mono ?_
              rintro e w2 ⟨rfl, rfl⟩
              go_wp2_with fail
              refine (len_stk hm.stk).mono ?_
              rintro e w4 ⟨rfl, rfl⟩
              simp only [List.length_nil]
              go_wp2_with fail
              refine (over_stk hm.stk).mono ?_
              rintro e w4 ⟨rfl, rfl⟩
              go_wp2_with fail
              go_roundw
              case rel => exact ⟨k + 1, [], _, _, _, by omega, by go_num, rfl, rfl, hm⟩
              case measure => simp [intOf]; omega
          · obtain ⟨g, cap', hv, hg, hn, hcap, hcell, ho⟩ := own_last hm.own
            injection hv with h1 h2 h3
            subst h1; subst h3
            unfold maxLen at hcap
            have hm' := hm
            have el : (L ++ [y]).length = L.length + 1 := by simp
            rw [el] at hm' ⊢
            go_wp2_with (go_at_call 16; refine (place _ _ _ (by omega) (by omega) (by omega) (by omega)).mono ?_; rintro e w' ⟨rfl, rfl⟩)
            refine (pop_y hm.stk).mono ?_
            rintro e w2 ⟨rfl, s2, k2⟩
            have c2 : w2.cell? ⟨g, L.length, none⟩ = some (.int .i64 y) := by
              rw [← hcell]; exact World.cell?_of_block (k2.block g (by have := (hm.own.lt g rfl).2; exact this) (by omega))
            have m2 : Mix w w2 w.heap.size K (.slice (some ⟨g, 0, none⟩) L.length c) L ov :=
              ⟨s2, own_keep ho k2 (fun g hg => by intro h; omega), ((Keep.of_ext hm.ext _).trans k2).toExt (fun j hj => by intro h; omega), Nat.le_refl _⟩
            clear hcell el
            go_wp2_with fail
            refine (len_stk m2.stk).mono ?_
            rintro e w4 ⟨rfl, rfl⟩
            go_wp2_with fail
            refine (over_stk m2.stk).mono ?_
            rintro e w4 ⟨rfl, rfl⟩
            go_wp2_with fail
            go_roundw
            case rel => exact ⟨k + 1, L, _, _, c, by omega, by go_num, rfl, rfl, m2⟩
            case measure => simp [intOf]; omega
        · go_wp2_with (go_at_call 16; refine (place _ _ _ (by omega) (by omega) (by omega) (by omega)).mono ?_; rintro e w' ⟨rfl, rfl⟩)
          refine (clear_stk hm.stk).mono ?_
          rintro e w2 ⟨rfl, s2, k2⟩
          have m2 := hm.other k2 s2
          go_wp2_with fail
          refine (len_stk m2.stk).mono ?_
          rintro e w4 ⟨rfl, rfl⟩
          go_wp2_with fail
          refine (over_stk m2.stk).mono ?_
          rintro e w4 ⟨rfl, rfl⟩
          go_wp2_with fail
          go_roundw
          case rel => exact ⟨k + 1, L, _, A, c, by omega, by go_num, rfl, rfl, m2⟩
          case measure => simp [intOf]; omega
      · go_wp2_with fail
        refine (awake _).mono ?_
        rintro e w3 ⟨rfl, x3⟩
        go_wp2_with fail
        go_ret
        exact ⟨rfl, (hm.ext.trans x3).below⟩
    · go_wp2_with fail
      refine (awake _).mono ?_
      rintro e w3 ⟨rfl, x3⟩
      go_wp2_with fail
      go_ret
      exact ⟨rfl, (hm.ext.trans x3).below⟩
theorem wf_at {zs : List Int} (h : ∀ n ∈ zs, (Lit.int .i64 n).wf = true) (i : Nat) : -9223372036854775808 ≤ zs.getD i 0 ∧ zs.getD i 0 ≤ 9223372036854775807 := by
  by_cases hi : i < zs.length
  · have e : zs.getD i 0 = zs[i] := by simp [List.getD, hi]
    rw [e]; exact bounds_i64 (h _ (List.getElem_mem hi))
  · rw [List.getD_eq_getElem?_getD, List.getElem?_eq_none (by omega)]; simp
theorem greyMixed (a0 : Int) (a1 : Option Addr) (len1 cap1 : Nat) (z1 : List Int) (w : World) (w0 : (Lit.int .i64 a0).wf = true) (w1 : Row .i64 w a1 len1 cap1 z1) :
    Calls Try.prog 12 #[.int .i64 a0, .slice a1 len1 cap1] w fun e w' => e = .returned (.bool true) ∧ Below w.heap.size w w' := by
  obtain ⟨x1, x2⟩ := bounds_i64 w0
  obtain ⟨hr, hz, hl, hw⟩ := w1.reads
  refine mixed_core a0 a1 len1 cap1 z1 w x1 x2 (fun i hi => ?_) hz hl (1 + a0 % 20).toNat (by omega) ?_ (by omega) (by omega)
  · obtain ⟨b, off, h1, h2, h3⟩ := hr i hi
    exact ⟨b, off, h1, h2, h3, wf_at hw i⟩
  · have : ((1 + a0 % 20).toNat : Int) = 1 + a0 % 20 := by omega
    rw [this]; unfold clampM; split <;> (try split) <;> omega
end Go.Proofs.Ytgfgmhfggbfeeaa.GreyLaws
