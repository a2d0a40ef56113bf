/-
  Free3, Free4, Free5, Free6, Free7, Free8, as one text (a claim has at most 60 files).
-/
import Derived.Test.YtjpalcejmloocaaGreatVq03
import Derived.Laws.IdiomCopy
import Derived.Lib.Overlaps
import Derived.Laws.Externs
import Derived.Lib.AppendZerosOnto
import Derived.ScopeJumps
import Derived.WalkMore
import Derived.BigRegion
namespace Go.Proofs.YtjpalcejmloocaaGreat.Free
open Go.RowKit Go.Proofs.YtjpalcejmloocaaGreat.Plain
set_option linter.unusedVariables false

def cmpI (x y : Int) : Int := if x < y then -1 else if y < x then 1 else 0
theorem isnan (x : Int) (w : World) : Calls Tryz.prog 361 #[.int .i64 x] w fun e w' => e = .returned (.bool false) ∧ w = w' := by
  have d : (x != x) = false := by simp
  go_enter Tryz.func361, Tryz.ntmps361
  go_wp2
  go_ret
  exact ⟨rfl, rfl⟩
theorem compare (x y : Int) (w : World) : Calls Tryz.prog 354 #[.int .i64 x, .int .i64 y] w fun e w' => e = .returned (.int .i64 (cmpI x y)) ∧ w = w' := by
  go_enter Tryz.func354, Tryz.ntmps354
  go_wp2_with (go_at_call 361; refine (isnan _ _).mono ?_; rintro e w' ⟨rfl, rfl⟩)
  all_goals go_ret
  all_goals refine ⟨ret_int ?_, rfl⟩
  all_goals unfold cmpI
  all_goals (split <;> (try split) <;> omega)
theorem from1 (x y a : Int) (w : World) : Calls Tryz.prog 391 #[.agg #[.int .i64 x, .int .i64 y], .int .i64 a] w fun e w' => e = .returned (.int .i64 (cmpI x a)) ∧ Ext w w' := by
  go_enter Tryz.func391, Tryz.ntmps391
  go_wp2_with fail
  refine (compare _ _ _).mono ?_
  rintro e w' ⟨rfl, rfl⟩
  go_wp2_with fail
  go_ret
  exact ⟨rfl, (Ext.refl _).alloc _⟩
/-- i is where the runs from 'at' on begin -/
structure IsLo (L : List Run) (a : Int) (i : Nat) : Prop where
  le : i ≤ L.length
  lo : ∀ j, j < i → (nth L j).1 < a
  hi : ∀ j, i ≤ j → j < L.length → a ≤ (nth L j).1
theorem IsLo.unique {L : List Run} {a : Int} {i j : Nat} (h : IsLo L a i) (k : IsLo L a j) : i = j := by
  rcases Nat.lt_trichotomy i j with h1 | h1 | h1
  · have := k.lo i h1; have := h.hi i (Nat.le_refl _) (by have := k.le; omega); omega
  · exact h1
  · have := h.lo j h1; have := k.hi j (Nat.le_refl _) (by have := h.le; omega); omega
def Srt (L : List Run) : Prop := ∀ i j, i < j → j < L.length → (nth L i).1 < (nth L j).1
def SearchPost (w : World) (L : List Run) (a : Int) (i : Nat) (e : Ending) (w' : World) : Prop := (∃ b : Bool, e = .returned (.tuple #[.int .i64 i, .bool b])) ∧ Ext w w'
set_option maxRecDepth 100000 in
set_option maxHeartbeats 2000000 in
theorem search {w : World} {g cap : Nat} {cur : Array Value} {L : List Run} (h : Rw w g cap cur L) (hs : Srt L) (hl : L.length ≤ 100000) (a : Int) (i : Nat) (hi : IsLo L a i) :
    Calls Tryz.prog 390 #[.slice (some ⟨g, 0, none⟩) L.length cap, .int .i64 a, .func (.func 391) #[] #[]] w (SearchPost w L a i) := by
  have HR := Lib.hid h
  have HS := Lib.hid hs
  have HI := Lib.hid hi
  clear h hs hi
  generalize hll : L.length = len at hl ⊢
  have HL := Lib.hid hll
  clear hll
  go_enter Tryz.func390, Tryz.ntmps390
  go_wp2
  go_loopw [9, 10] (fun p q wr => ∃ x y : Nat, x ≤ y ∧ y ≤ len ∧ p = .int .i64 x ∧ q = .int .i64 y ∧ Hid (∀ j, j < x → (nth L j).1 < a) ∧ Hid (∀ j, y ≤ j → j < len → a ≤ (nth L j).1) ∧ Ext w wr) (fun p q _ => (intOf q).toNat - (intOf p).toNat)
  case atStart => exact ⟨0, len, Nat.zero_le _, Nat.le_refl _, rfl, rfl, Lib.hid (fun j hj => by omega), Lib.hid (fun j hj hj2 => by omega), Ext.refl _⟩
  case round =>
    obtain ⟨x, y, hxy, hy, rfl, rfl, hlo, hhi, hx⟩ := hrel
    by_cases hlt : x < y
    · have hm : (x + y) / 2 < len := by omega
      obtain ⟨c1, c2⟩ := HR.out.get hx ((x + y) / 2) (by rw [HL.out]; exact hm)
      have hgr : g < wr.heap.size := by have := hx.below.size; have := HR.out.blk.lt; omega
      have mi : ((x : Int) + (y : Int)) / 2 < (len : Int) := by omega
      obtain ⟨r, hr⟩ : ∃ r, r = nth L ((x + y) / 2) := ⟨_, rfl⟩
      rw [← hr] at c1 c2
      have RR := Lib.hid hr
      clear hr
      by_cases hc : r.1 < a
      · have from2 : ∀ W : World, Calls Tryz.prog 391 #[.agg #[.int .i64 r.1, .int .i64 r.2], .int .i64 a] W fun e w' => e = .returned (.int .i64 (-1)) ∧ Ext W w' := fun W => by
          have := from1 r.1 r.2 a W
          rw [show cmpI r.1 a = -1 from if_pos hc] at this
          exact this
        have F2 := Lib.hid from2
        have HC := Lib.hid hc
        clear hc from2
        go_wp2_with fail
        refine (F2.out _).mono ?_
        rintro e w2 ⟨rfl, x2⟩
        go_wp2_with fail
        go_roundw
        case rel => exact ⟨(x + y) / 2 + 1, y, by omega, hy, by go_num, rfl, Lib.hid (fun j hj => by
            have hc := HC.out
            rw [RR.out] at hc
            rcases Nat.lt_or_ge j ((x + y) / 2) with h1 | h1
            · exact Int.lt_trans (HS.out j _ h1 (by rw [HL.out]; exact hm)) hc
            · obtain rfl : j = (x + y) / 2 := by omega
              exact hc), hhi, hx.trans x2⟩
        case measure => simp [intOf]; omega
      · have F2 := Lib.hid (from1 r.1 r.2 a)
        have ci : decide (cmpI r.1 a < 0) = false := by unfold cmpI; rw [if_neg hc]; split <;> decide
        have HC := Lib.hid hc
        clear hc
        generalize cmpI r.1 a = z at ci F2
        go_wp2_with fail
        refine (F2.out _).mono ?_
        rintro e w2 ⟨rfl, x2⟩
        go_wp2_with fail
        go_roundw
        case rel => exact ⟨x, (x + y) / 2, by omega, by omega, rfl, by go_num, hlo, Lib.hid (fun j hj hj2 => by
            have hc := HC.out
            rw [RR.out] at hc
            rcases Nat.lt_or_ge ((x + y) / 2) j with h1 | h1
            · have := HS.out _ j h1 (by rw [HL.out]; exact hj2); omega
            · obtain rfl : j = (x + y) / 2 := by omega
              omega), hx.trans x2⟩
        case measure => simp [intOf]; omega
    · obtain rfl : x = y := by omega
      obtain rfl : i = x := HI.out.unique ⟨by rw [HL.out]; exact hy, hlo.out, fun j h1 h2 => hhi.out j h1 (by rw [← HL.out]; exact h2)⟩
      by_cases hil : i < len
      · obtain ⟨c1, c2⟩ := HR.out.get hx i (by rw [HL.out]; exact hil)
        have hgr : g < wr.heap.size := by have := hx.below.size; have := HR.out.blk.lt; omega
        have F2 := Lib.hid (from1 (nth L i).1 (nth L i).2 a)
        generalize nth L i = r at c1 c2 F2
        generalize cmpI r.1 a = z at F2
        have di : decide ((i : Int) < (len : Int)) = true := by simp; omega
        go_wp2_with fail
        refine (F2.out _).mono ?_
        rintro e w2 ⟨rfl, x2⟩
        go_wp2_with fail
        go_ret2
        exact ⟨⟨_, rfl⟩, hx.trans x2⟩
      · have di : decide ((i : Int) < (len : Int)) = false := by simp; omega
        go_wp2_with fail
        go_ret2
        exact ⟨⟨_, rfl⟩, hx⟩
end Go.Proofs.YtjpalcejmloocaaGreat.Free
namespace Go.Proofs.YtjpalcejmloocaaGreat.Free
open Go.RowKit Go.Proofs.YtjpalcejmloocaaGreat.Plain
set_option linter.unusedVariables false

theorem own_form {w : World} {base : Nat} {e : TypeId} {size : Nat} {v : Value} {n : Nat} {xs : List Value} (h : w.ownsRow base e size v n xs) : ∃ A c, v = .slice A n c ∧ n ≤ c ∧ c ≤ maxLen := by
  rcases h.2 with ⟨rfl, rfl⟩ | ⟨g, cap, cur, rfl, _, _, h1, h2, _⟩
  · exact ⟨none, 0, rfl, Nat.le_refl _, Nat.zero_le _⟩
  · exact ⟨_, _, rfl, h1, h2⟩
end Go.Proofs.YtjpalcejmloocaaGreat.Free
namespace Go.Proofs.YtjpalcejmloocaaGreat.Free
open Go.RowKit Go.Proofs.YtjpalcejmloocaaGreat.Plain
set_option linter.unusedVariables false

end Go.Proofs.YtjpalcejmloocaaGreat.Free
namespace Go.Proofs.YtjpalcejmloocaaGreat.Free
set_option linter.unusedVariables false

end Go.Proofs.YtjpalcejmloocaaGreat.Free
namespace Go.Proofs.YtjpalcejmloocaaGreat.Free
open Go.RowKit Go.Proofs.YtjpalcejmloocaaGreat.Plain
set_option linter.unusedVariables false

/-- only g and rows of runs from base on have turned -/
def TK (w : World) (g base : Nat) (w' : World) : Prop := Keep (fun k => k = g ∨ (base ≤ k ∧ ∃ cs, Blk w k 198 cs)) w w'
theorem TK.refl (w : World) (g base : Nat) : TK w g base w := Keep.refl _ _
theorem TK.ext {w w1 w2 : World} {g base : Nat} (h : TK w g base w1) (x : Ext w1 w2) : TK w g base w2 := Keep.ext h x
theorem TK.step {w w1 w2 : World} {g base n : Nat} {v : Value} {xs : List Value} (h : TK w g base w1) (o : w1.ownsRow base 198 2 v n xs) (k : Keep (fun k => k = g ∨ v.ownBlock = some k) w1 w2) : TK w g base w2 := by
  refine ⟨k.os.trans h.os, k.tape.trans h.tape, k.output.trans h.output, Nat.le_trans h.size k.size, fun j hj hn => (k.block j (Nat.lt_of_lt_of_le hj h.size) ?_).trans (h.block j hj hn)⟩
  rintro (e | e)
  · exact hn (.inl e)
  · rcases o.2 with ⟨rfl, _⟩ | ⟨r, cap, cur, rfl, hb, hg, _⟩
    · cases e
    · simp [Value.ownBlock] at e
      subst e
      refine hn (.inr ⟨hb, cur, ?_⟩)
      have := h.block r hj hn
      unfold Blk
      rw [← this]
      exact hg
end Go.Proofs.YtjpalcejmloocaaGreat.Free
namespace Go.Proofs.YtjpalcejmloocaaGreat.Free
open Go.RowKit Go.Proofs.YtjpalcejmloocaaGreat.Plain
set_option linter.unusedVariables false

theorem wp_scope_enter {P : Program} {a : Act} {w : World} {Q : Exit → Act → World → Prop} {c b : Code} (l : Nat) (J : Act → World → Prop) (μ : Act → World → Nat) (hf : findLabel c l = some (.seq .skip b))
    (pass : ∀ a w, J a w → b.wp P (Exit.jump l (fun a' w' => J a' w' ∧ μ a' w' < μ a w) Q) a w)
    (first : (∀ a w, J a w → b.wp P (Exit.jump l J Q) a w) → c.wp P (Exit.jump l J Q) a w) : (Code.scope c).wp P Q a w :=
  wp_scope_jumps l J μ hf (first (fun a w h => wp_mono (pass a w h) (fun e a' w' h' => by
    cases e <;> first | exact h' | exact ⟨h'.1, h'.2.1⟩))) (fun a w h => wp_seq (wp_skip (pass a w h)))
theorem Fre.apart {w : World} {g base : Nat} {v : Value} {L : List Run} {N : Int} (h : Fre w g base v L N) : v.ownBlock ≠ some g := by
  intro hk
  rcases own_rw h.own with ⟨rfl, _⟩ | ⟨r, cap, cur, rfl, hb, hr⟩
  · cases hk
  · simp [Value.ownBlock] at hk
    exact h.blk.ne hr.blk (by decide) hk.symm
/-- the slots at the label -/
def Slt (g : Nat) (a n : Int) (k last : Nat) (act : Act) : Prop := ∃ u : Nat → Value, act = { tmps := #[.pointer (some ⟨g, 0, none⟩), .int .i64 a, .int .i64 n, u 3, u 4, u 5, .bool false, .int .i64 k, .int .i64 last, u 9, u 10, u 11, u 12, u 13, u 14, u 15, u 16, u 17, u 18, u 19, u 20, u 21, u 22, u 23, u 24, u 25, u 26, u 27, u 28, u 29, u 30, u 31, u 32, u 33, u 34, u 35, u 36, u 37, u 38, u 39, u 40, u 41, u 42, u 43, u 44, u 45, u 46, u 47, u 48, u 49, u 50, u 51, u 52, u 53, u 54, u 55, u 56, u 57, u 58, u 59, u 60, u 61, u 62, u 63, u 64, u 65, u 66, u 67, u 68, u 69, u 70, u 71, u 72, u 73, u 74, u 75, u 76, u 77, u 78, u 79, u 80, u 81, u 82, u 83, u 84, u 85, u 86, u 87, u 88, u 89, u 90, u 91, u 92, u 93, u 94, u 95, u 96, u 97, u 98, u 99, u 100, u 101, u 102, u 103, u 104, u 105, u 106, u 107, u 108, u 109, u 110, u 111, u 112, u 113, u 114, u 115, u 116, u 117, u 118, u 119, u 120, u 121, u 122, u 123, u 124, u 125, u 126, u 127, u 128, u 129, u 130, u 131, u 132, u 133, u 134, u 135, u 136, u 137, u 138, u 139, u 140, u 141, u 142, u 143, u 144, u 145, u 146, u 147, u 148, u 149, u 150, u 151, u 152, u 153, u 154, u 155], defers := [] }
theorem Slt.mk (g : Nat) (a n : Int) (k last : Nat) (x y : Int) (hx : x = k) (hy : y = last) (act : Act) (h : act = { tmps := #[.pointer (some ⟨g, 0, none⟩), .int .i64 a, .int .i64 n, act.tmps.getD 3 undef, act.tmps.getD 4 undef, act.tmps.getD 5 undef, .bool false, .int .i64 x, .int .i64 y, act.tmps.getD 9 undef, act.tmps.getD 10 undef, act.tmps.getD 11 undef, act.tmps.getD 12 undef, act.tmps.getD 13 undef, act.tmps.getD 14 undef, act.tmps.getD 15 undef, act.tmps.getD 16 undef, act.tmps.getD 17 undef, act.tmps.getD 18 undef, act.tmps.getD 19 undef, act.tmps.getD 20 undef, act.tmps.getD 21 undef, act.tmps.getD 22 undef, act.tmps.getD 23 undef, act.tmps.getD 24 undef, act.tmps.getD 25 undef, act.tmps.getD 26 undef, act.tmps.getD 27 undef, act.tmps.getD 28 undef, act.tmps.getD 29 undef, act.tmps.getD 30 undef, act.tmps.getD 31 undef, act.tmps.getD 32 undef, act.tmps.getD 33 undef, act.tmps.getD 34 undef, act.tmps.getD 35 undef, act.tmps.getD 36 undef, act.tmps.getD 37 undef, act.tmps.getD 38 undef, act.tmps.getD 39 undef, act.tmps.getD 40 undef, act.tmps.getD 41 undef, act.tmps.getD 42 undef, act.tmps.getD 43 undef, act.tmps.getD 44 undef, act.tmps.getD 45 undef, act.tmps.getD 46 undef, act.tmps.getD 47 undef, act.tmps.getD 48 undef, act.tmps.getD 49 undef, act.tmps.getD 50 undef, act.tmps.getD 51 undef, act.tmps.getD 52 undef, act.tmps.getD 53 undef, act.tmps.getD 54 undef, act.tmps.getD 55 undef, act.tmps.getD 56 undef, act.tmps.getD 57 undef, act.tmps.getD 58 undef, act.tmps.getD 59 undef, act.tmps.getD 60 undef, act.tmps.getD 61 undef, act.tmps.getD 62 undef, act.tmps.getD 63 undef, act.tmps.getD 64 undef, act.tmps.getD 65 undef, act.tmps.getD 66 undef, act.tmps.getD 67 undef, act.tmps.getD 68 undef, act.tmps.getD 69 undef, act.tmps.getD 70 undef, act.tmps.getD 71 undef, act.tmps.getD 72 undef, act.tmps.getD 73 undef, act.tmps.getD 74 undef, act.tmps.getD 75 undef, act.tmps.getD 76 undef, act.tmps.getD 77 undef, act.tmps.getD 78 undef, act.tmps.getD 79 undef, act.tmps.getD 80 undef, act.tmps.getD 81 undef, act.tmps.getD 82 undef, act.tmps.getD 83 undef, act.tmps.getD 84 undef, act.tmps.getD 85 undef, act.tmps.getD 86 undef, act.tmps.getD 87 undef, act.tmps.getD 88 undef, act.tmps.getD 89 undef, act.tmps.getD 90 undef, act.tmps.getD 91 undef, act.tmps.getD 92 undef, act.tmps.getD 93 undef, act.tmps.getD 94 undef, act.tmps.getD 95 undef, act.tmps.getD 96 undef, act.tmps.getD 97 undef, act.tmps.getD 98 undef, act.tmps.getD 99 undef, act.tmps.getD 100 undef, act.tmps.getD 101 undef, act.tmps.getD 102 undef, act.tmps.getD 103 undef, act.tmps.getD 104 undef, act.tmps.getD 105 undef, act.tmps.getD 106 undef, act.tmps.getD 107 undef, act.tmps.getD 108 undef, act.tmps.getD 109 undef, act.tmps.getD 110 undef, act.tmps.getD 111 undef, act.tmps.getD 112 undef, act.tmps.getD 113 undef, act.tmps.getD 114 undef, act.tmps.getD 115 undef, act.tmps.getD 116 undef, act.tmps.getD 117 undef, act.tmps.getD 118 undef, act.tmps.getD 119 undef, act.tmps.getD 120 undef, act.tmps.getD 121 undef, act.tmps.getD 122 undef, act.tmps.getD 123 undef, act.tmps.getD 124 undef, act.tmps.getD 125 undef, act.tmps.getD 126 undef, act.tmps.getD 127 undef, act.tmps.getD 128 undef, act.tmps.getD 129 undef, act.tmps.getD 130 undef, act.tmps.getD 131 undef, act.tmps.getD 132 undef, act.tmps.getD 133 undef, act.tmps.getD 134 undef, act.tmps.getD 135 undef, act.tmps.getD 136 undef, act.tmps.getD 137 undef, act.tmps.getD 138 undef, act.tmps.getD 139 undef, act.tmps.getD 140 undef, act.tmps.getD 141 undef, act.tmps.getD 142 undef, act.tmps.getD 143 undef, act.tmps.getD 144 undef, act.tmps.getD 145 undef, act.tmps.getD 146 undef, act.tmps.getD 147 undef, act.tmps.getD 148 undef, act.tmps.getD 149 undef, act.tmps.getD 150 undef, act.tmps.getD 151 undef, act.tmps.getD 152 undef, act.tmps.getD 153 undef, act.tmps.getD 154 undef, act.tmps.getD 155 undef], defers := [] }) : Slt g a n k last act := by
  subst hx; subst hy; exact ⟨fun j => act.tmps.getD j undef, h⟩
theorem Slt.intro (g : Nat) (a n : Int) (k last : Nat) (act : Act) (h : act = { tmps := #[.pointer (some ⟨g, 0, none⟩), .int .i64 a, .int .i64 n, act.tmps.getD 3 undef, act.tmps.getD 4 undef, act.tmps.getD 5 undef, .bool false, .int .i64 k, .int .i64 last, act.tmps.getD 9 undef, act.tmps.getD 10 undef, act.tmps.getD 11 undef, act.tmps.getD 12 undef, act.tmps.getD 13 undef, act.tmps.getD 14 undef, act.tmps.getD 15 undef, act.tmps.getD 16 undef, act.tmps.getD 17 undef, act.tmps.getD 18 undef, act.tmps.getD 19 undef, act.tmps.getD 20 undef, act.tmps.getD 21 undef, act.tmps.getD 22 undef, act.tmps.getD 23 undef, act.tmps.getD 24 undef, act.tmps.getD 25 undef, act.tmps.getD 26 undef, act.tmps.getD 27 undef, act.tmps.getD 28 undef, act.tmps.getD 29 undef, act.tmps.getD 30 undef, act.tmps.getD 31 undef, act.tmps.getD 32 undef, act.tmps.getD 33 undef, act.tmps.getD 34 undef, act.tmps.getD 35 undef, act.tmps.getD 36 undef, act.tmps.getD 37 undef, act.tmps.getD 38 undef, act.tmps.getD 39 undef, act.tmps.getD 40 undef, act.tmps.getD 41 undef, act.tmps.getD 42 undef, act.tmps.getD 43 undef, act.tmps.getD 44 undef, act.tmps.getD 45 undef, act.tmps.getD 46 undef, act.tmps.getD 47 undef, act.tmps.getD 48 undef, act.tmps.getD 49 undef, act.tmps.getD 50 undef, act.tmps.getD 51 undef, act.tmps.getD 52 undef, act.tmps.getD 53 undef, act.tmps.getD 54 undef, act.tmps.getD 55 undef, act.tmps.getD 56 undef, act.tmps.getD 57 undef, act.tmps.getD 58 undef, act.tmps.getD 59 undef, act.tmps.getD 60 undef, act.tmps.getD 61 undef, act.tmps.getD 62 undef, act.tmps.getD 63 undef, act.tmps.getD 64 undef, act.tmps.getD 65 undef, act.tmps.getD 66 undef, act.tmps.getD 67 undef, act.tmps.getD 68 undef, act.tmps.getD 69 undef, act.tmps.getD 70 undef, act.tmps.getD 71 undef, act.tmps.getD 72 undef, act.tmps.getD 73 undef, act.tmps.getD 74 undef, act.tmps.getD 75 undef, act.tmps.getD 76 undef, act.tmps.getD 77 undef, act.tmps.getD 78 undef, act.tmps.getD 79 undef, act.tmps.getD 80 undef, act.tmps.getD 81 undef, act.tmps.getD 82 undef, act.tmps.getD 83 undef, act.tmps.getD 84 undef, act.tmps.getD 85 undef, act.tmps.getD 86 undef, act.tmps.getD 87 undef, act.tmps.getD 88 undef, act.tmps.getD 89 undef, act.tmps.getD 90 undef, act.tmps.getD 91 undef, act.tmps.getD 92 undef, act.tmps.getD 93 undef, act.tmps.getD 94 undef, act.tmps.getD 95 undef, act.tmps.getD 96 undef, act.tmps.getD 97 undef, act.tmps.getD 98 undef, act.tmps.getD 99 undef, act.tmps.getD 100 undef, act.tmps.getD 101 undef, act.tmps.getD 102 undef, act.tmps.getD 103 undef, act.tmps.getD 104 undef, act.tmps.getD 105 undef, act.tmps.getD 106 undef, act.tmps.getD 107 undef, act.tmps.getD 108 undef, act.tmps.getD 109 undef, act.tmps.getD 110 undef, act.tmps.getD 111 undef, act.tmps.getD 112 undef, act.tmps.getD 113 undef, act.tmps.getD 114 undef, act.tmps.getD 115 undef, act.tmps.getD 116 undef, act.tmps.getD 117 undef, act.tmps.getD 118 undef, act.tmps.getD 119 undef, act.tmps.getD 120 undef, act.tmps.getD 121 undef, act.tmps.getD 122 undef, act.tmps.getD 123 undef, act.tmps.getD 124 undef, act.tmps.getD 125 undef, act.tmps.getD 126 undef, act.tmps.getD 127 undef, act.tmps.getD 128 undef, act.tmps.getD 129 undef, act.tmps.getD 130 undef, act.tmps.getD 131 undef, act.tmps.getD 132 undef, act.tmps.getD 133 undef, act.tmps.getD 134 undef, act.tmps.getD 135 undef, act.tmps.getD 136 undef, act.tmps.getD 137 undef, act.tmps.getD 138 undef, act.tmps.getD 139 undef, act.tmps.getD 140 undef, act.tmps.getD 141 undef, act.tmps.getD 142 undef, act.tmps.getD 143 undef, act.tmps.getD 144 undef, act.tmps.getD 145 undef, act.tmps.getD 146 undef, act.tmps.getD 147 undef, act.tmps.getD 148 undef, act.tmps.getD 149 undef, act.tmps.getD 150 undef, act.tmps.getD 151 undef, act.tmps.getD 152 undef, act.tmps.getD 153 undef, act.tmps.getD 154 undef, act.tmps.getD 155 undef], defers := [] }) : Slt g a n k last act := ⟨fun j => act.tmps.getD j undef, h⟩
end Go.Proofs.YtjpalcejmloocaaGreat.Free
