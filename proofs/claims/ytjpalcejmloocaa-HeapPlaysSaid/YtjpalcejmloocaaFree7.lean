/-
  Contracts of package free (chapter 4): end, Give, Is.
-/
import Derived.Test.YtjpalcejmloocaaFree6
import Derived.ScopeJumps
import Derived.WalkMore
namespace Go.Proofs.Ytjpalcejmloocaa.Free
open Go.RowKit Go.Proofs.Ytjpalcejmloocaa.Plain
set_option linter.unusedVariables false

theorem end_ (x y : Int) (w : World) (h1 : 0 ≤ x) (h2 : 0 ≤ y) (h3 : x + y ≤ 1000000) : Calls Try.prog 62 #[.agg #[.int .i64 x, .int .i64 y]] w fun e w' => e = .returned (.int .i64 (x + y)) ∧ Ext w w' := by
  go_enter Try.func62, Try.ntmps62
  go_wp2
  try go_quiet (fail)
  try go_wp2
  go_ret
  exact ⟨rfl, by first | exact ((Ext.refl _).alloc _).drewN _ | exact (Ext.refl _).alloc _⟩
set_option maxRecDepth 100000 in
set_option maxHeartbeats 1000000 in
theorem give_bad {w : World} {g base : Nat} {v : Value} {L : List Run} {N : Nat} (h : Fre w g base v L N) (hN : N ≤ 65536) (a n : Int) (hb : n < 1 ∨ a < 0 ∨ (N : Int) < n ∨ (N : Int) - n < a) :
    Calls Try.prog 49 #[.pointer (some ⟨g, 0, none⟩), .int .i64 a, .int .i64 n] w fun e w' => e = .returned (.bool false) ∧ w = w' := by
  obtain ⟨r1, r2, r3⟩ := h.blk.rules
  clear h
  by_cases h1 : n < 1
  · have d1 : decide (n < 1) = true := by simpa using h1
    clear hb
    go_enter Try.func49, Try.ntmps49
    go_wp2
    go_step3
    go_wp2
    rw [Exit.noGoto_ret]
    go_ret
    exact ⟨rfl, rfl⟩
  · have d1 : decide (n < 1) = false := by simpa using h1
    by_cases h2 : a < 0
    · have d2 : decide (a < 0) = true := by simpa using h2
      clear hb
      go_enter Try.func49, Try.ntmps49
      go_wp2
      go_step3
      go_wp2
      rw [Exit.noGoto_ret]
      go_ret
      exact ⟨rfl, rfl⟩
    · have d2 : decide (a < 0) = false := by simpa using h2
      by_cases h3 : (N : Int) < n
      · have d3 : decide ((N : Int) < n) = true := by simpa using h3
        clear hb
        go_enter Try.func49, Try.ntmps49
        go_wp2
        go_step3
        go_wp2
        rw [Exit.noGoto_ret]
        go_ret
        exact ⟨rfl, rfl⟩
      · have d3 : decide ((N : Int) < n) = false := by simpa using h3
        have d4 : decide ((N : Int) - n < a) = true := by simp; omega
        clear hb
        go_enter Try.func49, Try.ntmps49
        go_wp2
        go_step3
        go_wp2
        rw [Exit.noGoto_ret]
        go_ret
        exact ⟨rfl, rfl⟩
set_option maxRecDepth 100000 in
set_option maxHeartbeats 2000000 in
theorem give_hit {w : World} {g base : Nat} {v : Value} {L : List Run} {N : Nat} (h : Fre w g base v L N) (hs : Srt L) (hN : N ≤ 65536) (a n : Int) (h1 : 1 ≤ n) (h2 : 0 ≤ a) (h3 : n ≤ N) (h4 : a ≤ (N : Int) - n) (i : Nat) (hi : IsLo L a i)
    (hit : (i < L.length ∧ (nth L i).1 < a + n) ∨ (0 < i ∧ a < (nth L (i - 1)).1 + (nth L (i - 1)).2)) :
    Calls Try.prog 49 #[.pointer (some ⟨g, 0, none⟩), .int .i64 a, .int .i64 n] w fun e w' => e = .returned (.bool false) ∧ Ext w w' := by
  have hle := hi.le
  rcases own_rw h.own with ⟨rfl, rfl⟩ | ⟨gr, cap, cur, rfl, hbase, hr⟩
  · simp at hle hit; omega
  have FR := Lib.hid (from_at h hs a i hi)
  obtain ⟨r1, r2, r3⟩ := h.blk.rules
  have HB := Lib.hid h.bd
  have hlen := h.len
  have HR := Lib.hid hr
  have d1 : decide (n < 1) = false := by simp; omega
  have d2 : decide (a < 0) = false := by simp; omega
  have d3 : decide ((N : Int) < n) = false := by simp; omega
  have d4 : decide ((N : Int) - n < a) = false := by simp; omega
  generalize hll : L.length = len at *
  have HL := Lib.hid hll
  clear h hr hi hs hll
  go_enter Try.func49, Try.ntmps49
  go_wp2
  go_step3
  go_wp2_with fail
  refine FR.out.mono ?_
  rintro e w1 ⟨rfl, x1⟩
  have cv : w1.cell? ⟨g, 1, none⟩ = some (.slice (some ⟨gr, 0, none⟩) len cap) := (x1.below.cell (p := ⟨g, 1, none⟩) r3).trans (r1 1)
  have hgw : g < w1.heap.size := by have := x1.below.size; omega
  have hgr : gr < w1.heap.size := by have := x1.below.size; have := HR.out.blk.lt; omega
  by_cases c1 : i < len ∧ (nth L i).1 < a + n
  · obtain ⟨p1, p2⟩ := HR.out.get x1 i (by rw [HL.out]; exact c1.1)
    have e1 : decide ((i : Int) < (len : Int)) = true := by simp; omega
    have e1' : decide (i < len) = true := by simp; omega
    have e2 : decide ((nth L i).1 < a + n) = true := by simpa using c1.2
    have e3 : (i : Int) < (len : Int) := by omega
    clear hit c1 r1
    generalize nth L i = x at *
    go_wp2
    rw [Exit.noGoto_ret]
    go_ret
    exact ⟨rfl, x1⟩
  · have hit2 : 0 < i ∧ a < (nth L (i - 1)).1 + (nth L (i - 1)).2 := by
      rcases hit with h' | h'
      · exact absurd h' c1
      · exact h'
    obtain ⟨i0, i1⟩ := hit2
    obtain ⟨q1, q2⟩ := HR.out.get x1 (i - 1) (by rw [HL.out]; omega)
    obtain ⟨m1, m2, m3⟩ := HB.out _ (nth_mem L (i - 1) (by rw [HL.out]; omega))
    have f1 : ((i : Int) - 1).toNat = i - 1 := by omega
    have f2 : 0 ≤ (i : Int) - 1 := by omega
    have f3 : (i : Int) - 1 < (len : Int) := by omega
    have f4 : decide (0 < (i : Int)) = true := by simp; omega
    have f4' : decide (0 < i) = true := by simp; omega
    have f5 : decide (a < (nth L (i - 1)).1 + (nth L (i - 1)).2) = true := by simpa using i1
    by_cases c2 : i < len
    · obtain ⟨p1, p2⟩ := HR.out.get x1 i (by rw [HL.out]; exact c2)
      have e1 : decide ((i : Int) < (len : Int)) = true := by simp; omega
      have e1' : decide (i < len) = true := by simp; omega
      have e2 : decide ((nth L i).1 < a + n) = false := decide_eq_false (fun hh => c1 ⟨c2, hh⟩)
      have e3 : (i : Int) < (len : Int) := by omega
      clear hit c1 r1
      generalize nth L i = x at *
      generalize nth L (i - 1) = y at *
      go_wp2_with fail
      refine (end_ _ _ _ (by omega) (by omega) (by omega)).mono ?_
      rintro e w2 ⟨rfl, x2⟩
      go_wp2_with fail
      rw [Exit.noGoto_ret]
      go_ret
      exact ⟨rfl, x1.trans x2⟩
    · have e1 : decide ((i : Int) < (len : Int)) = false := by simp; omega
      have e1' : decide (i < len) = false := by simp; omega
      clear hit c1 r1
      generalize nth L (i - 1) = y at *
      go_wp2_with fail
      refine (end_ _ _ _ (by omega) (by omega) (by omega)).mono ?_
      rintro e w2 ⟨rfl, x2⟩
      go_wp2_with fail
      rw [Exit.noGoto_ret]
      go_ret
      exact ⟨rfl, x1.trans x2⟩
/-- only g and rows of runs from base on have turned -/
def TK (w : World) (g base : Nat) (w' : World) : Prop := Keep (fun k => k = g ∨ (base ≤ k ∧ ∃ cs, Blk w k 78 cs)) w w'
theorem TK.refl (w : World) (g base : Nat) : TK w g base w := Keep.refl _ _
theorem TK.ext {w w1 w2 : World} {g base : Nat} (h : TK w g base w1) (x : Ext w1 w2) : TK w g base w2 := Keep.ext h x
theorem TK.step {w w1 w2 : World} {g base n : Nat} {v : Value} {xs : List Value} (h : TK w g base w1) (o : w1.ownsRow base 78 2 v n xs) (k : Keep (fun k => k = g ∨ v.ownBlock = some k) w1 w2) : TK w g base w2 := by
  refine ⟨k.os.trans h.os, k.tape.trans h.tape, k.output.trans h.output, Nat.le_trans h.size k.size, fun j hj hn => (k.block j (Nat.lt_of_lt_of_le hj h.size) ?_).trans (h.block j hj hn)⟩
  rintro (e | e)
  · exact hn (.inl e)
  · rcases o.2 with ⟨rfl, _⟩ | ⟨r, cap, cur, rfl, hb, hg, _⟩
    · cases e
    · simp [Value.ownBlock] at e
      subst e
      refine hn (.inr ⟨hb, cur, ?_⟩)
      have := h.block r hj hn
      unfold Blk
      rw [← this]
      exact hg
end Go.Proofs.Ytjpalcejmloocaa.Free
