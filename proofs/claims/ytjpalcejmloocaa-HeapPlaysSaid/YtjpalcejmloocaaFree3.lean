/-
  Contracts of package free (chapter 4): from (a binary search among the runs).
-/
import Derived.Test.YtjpalcejmloocaaFree2
namespace Go.Proofs.Ytjpalcejmloocaa.Free
open Go.RowKit Go.Proofs.Ytjpalcejmloocaa.Plain
set_option linter.unusedVariables false

def cmpI (x y : Int) : Int := if x < y then -1 else if y < x then 1 else 0
theorem isnan (x : Int) (w : World) : Calls Try.prog 70 #[.int .i64 x] w fun e w' => e = .returned (.bool false) ∧ w = w' := by
  have d : (x != x) = false := by simp
  go_enter Try.func70, Try.ntmps70
  go_wp2
  go_ret
  exact ⟨rfl, rfl⟩
theorem compare (x y : Int) (w : World) : Calls Try.prog 67 #[.int .i64 x, .int .i64 y] w fun e w' => e = .returned (.int .i64 (cmpI x y)) ∧ w = w' := by
  go_enter Try.func67, Try.ntmps67
  go_wp2_with (go_at_call 70; refine (isnan _ _).mono ?_; rintro e w' ⟨rfl, rfl⟩)
  all_goals go_ret
  all_goals refine ⟨ret_int ?_, rfl⟩
  all_goals unfold cmpI
  all_goals (split <;> (try split) <;> omega)
theorem from1 (x y a : Int) (w : World) : Calls Try.prog 66 #[.agg #[.int .i64 x, .int .i64 y], .int .i64 a] w fun e w' => e = .returned (.int .i64 (cmpI x a)) ∧ Ext w w' := by
  go_enter Try.func66, Try.ntmps66
  go_wp2_with fail
  refine (compare _ _ _).mono ?_
  rintro e w' ⟨rfl, rfl⟩
  go_wp2_with fail
  go_ret
  exact ⟨rfl, (Ext.refl _).alloc _⟩
/-- i is where the runs from 'at' on begin -/
structure IsLo (L : List Run) (a : Int) (i : Nat) : Prop where
  le : i ≤ L.length
  lo : ∀ j, j < i → (nth L j).1 < a
  hi : ∀ j, i ≤ j → j < L.length → a ≤ (nth L j).1
theorem IsLo.unique {L : List Run} {a : Int} {i j : Nat} (h : IsLo L a i) (k : IsLo L a j) : i = j := by
  rcases Nat.lt_trichotomy i j with h1 | h1 | h1
  · have := k.lo i h1; have := h.hi i (Nat.le_refl _) (by have := k.le; omega); omega
  · exact h1
  · have := h.lo j h1; have := k.hi j (Nat.le_refl _) (by have := h.le; omega); omega
def Srt (L : List Run) : Prop := ∀ i j, i < j → j < L.length → (nth L i).1 < (nth L j).1
def SearchPost (w : World) (L : List Run) (a : Int) (i : Nat) (e : Ending) (w' : World) : Prop := (∃ b : Bool, e = .returned (.tuple #[.int .i64 i, .bool b])) ∧ Ext w w'
set_option maxRecDepth 100000 in
set_option maxHeartbeats 2000000 in
theorem search {w : World} {g cap : Nat} {cur : Array Value} {L : List Run} (h : Rw w g cap cur L) (hs : Srt L) (hl : L.length ≤ 100000) (a : Int) (i : Nat) (hi : IsLo L a i) :
    Calls Try.prog 65 #[.slice (some ⟨g, 0, none⟩) L.length cap, .int .i64 a, .func (.func 66) #[] #[]] w (SearchPost w L a i) := by
  have HR := Lib.hid h
  have HS := Lib.hid hs
  have HI := Lib.hid hi
  clear h hs hi
  generalize hll : L.length = len at hl ⊢
  have HL := Lib.hid hll
  clear hll
  go_enter Try.func65, Try.ntmps65
  go_wp2
  go_loopw [9, 10] (fun p q wr => ∃ x y : Nat, x ≤ y ∧ y ≤ len ∧ p = .int .i64 x ∧ q = .int .i64 y ∧ Hid (∀ j, j < x → (nth L j).1 < a) ∧ Hid (∀ j, y ≤ j → j < len → a ≤ (nth L j).1) ∧ Ext w wr) (fun p q _ => (intOf q).toNat - (intOf p).toNat)
  case atStart => exact ⟨0, len, Nat.zero_le _, Nat.le_refl _, rfl, rfl, Lib.hid (fun j hj => by omega), Lib.hid (fun j hj hj2 => by omega), Ext.refl _⟩
  case round =>
    obtain ⟨x, y, hxy, hy, rfl, rfl, hlo, hhi, hx⟩ := hrel
    by_cases hlt : x < y
    · have hm : (x + y) / 2 < len := by omega
      obtain ⟨c1, c2⟩ := HR.out.get hx ((x + y) / 2) (by rw [HL.out]; exact hm)
      have hgr : g < wr.heap.size := by have := hx.below.size; have := HR.out.blk.lt; omega
      have mi : ((x : Int) + (y : Int)) / 2 < (len : Int) := by omega
      obtain ⟨r, hr⟩ : ∃ r, r = nth L ((x + y) / 2) := ⟨_, rfl⟩
      rw [← hr] at c1 c2
      have RR := Lib.hid hr
      clear hr
      by_cases hc : r.1 < a
      · have from2 : ∀ W : World, Calls Try.prog 66 #[.agg #[.int .i64 r.1, .int .i64 r.2], .int .i64 a] W fun e w' => e = .returned (.int .i64 (-1)) ∧ Ext W w' := fun W => by
          have := from1 r.1 r.2 a W
          rw [show cmpI r.1 a = -1 from if_pos hc] at this
          exact this
        have F2 := Lib.hid from2
        have HC := Lib.hid hc
        clear hc from2
        go_wp2_with fail
        refine (F2.out _).mono ?_
        rintro e w2 ⟨rfl, x2⟩
        go_wp2_with fail
        go_roundw
        case rel => exact ⟨(x + y) / 2 + 1, y, by omega, hy, by go_num, rfl, Lib.hid (fun j hj => by
            have hc := HC.out
            rw [RR.out] at hc
            rcases Nat.lt_or_ge j ((x + y) / 2) with h1 | h1
            · exact Int.lt_trans (HS.out j _ h1 (by rw [HL.out]; exact hm)) hc
            · obtain rfl : j = (x + y) / 2 := by omega
              exact hc), hhi, hx.trans x2⟩
        case measure => simp [intOf]; omega
      · have F2 := Lib.hid (from1 r.1 r.2 a)
        have ci : decide (cmpI r.1 a < 0) = false := by unfold cmpI; rw [if_neg hc]; split <;> decide
        have HC := Lib.hid hc
        clear hc
        generalize cmpI r.1 a = z at ci F2
        go_wp2_with fail
        refine (F2.out _).mono ?_
        rintro e w2 ⟨rfl, x2⟩
        go_wp2_with fail
        go_roundw
        case rel => exact ⟨x, (x + y) / 2, by omega, by omega, rfl, by go_num, hlo, Lib.hid (fun j hj hj2 => by
            have hc := HC.out
            rw [RR.out] at hc
            rcases Nat.lt_or_ge ((x + y) / 2) j with h1 | h1
            · have := HS.out _ j h1 (by rw [HL.out]; exact hj2); omega
            · obtain rfl : j = (x + y) / 2 := by omega
              omega), hx.trans x2⟩
        case measure => simp [intOf]; omega
    · obtain rfl : x = y := by omega
      obtain rfl : i = x := HI.out.unique ⟨by rw [HL.out]; exact hy, hlo.out, fun j h1 h2 => hhi.out j h1 (by rw [← HL.out]; exact h2)⟩
      by_cases hil : i < len
      · obtain ⟨c1, c2⟩ := HR.out.get hx i (by rw [HL.out]; exact hil)
        have hgr : g < wr.heap.size := by have := hx.below.size; have := HR.out.blk.lt; omega
        have F2 := Lib.hid (from1 (nth L i).1 (nth L i).2 a)
        generalize nth L i = r at c1 c2 F2
        generalize cmpI r.1 a = z at F2
        have di : decide ((i : Int) < (len : Int)) = true := by simp; omega
        go_wp2_with fail
        refine (F2.out _).mono ?_
        rintro e w2 ⟨rfl, x2⟩
        go_wp2_with fail
        go_ret2
        exact ⟨⟨_, rfl⟩, hx.trans x2⟩
      · have di : decide ((i : Int) < (len : Int)) = false := by simp; omega
        go_wp2_with fail
        go_ret2
        exact ⟨⟨_, rfl⟩, hx⟩
set_option maxHeartbeats 1000000 in
theorem search_nil (w : World) (a : Int) :
    Calls Try.prog 65 #[.slice none 0 0, .int .i64 a, .func (.func 66) #[] #[]] w fun e w' => e = .returned (.tuple #[.int .i64 0, .bool false]) ∧ w = w' := by
  go_enter Try.func65, Try.ntmps65
  go_wp2
  go_loop [9, 10] (fun p q => p = .int .i64 0 ∧ q = .int .i64 0) (fun _ _ => 0)
  case atStart => exact ⟨rfl, rfl⟩
  case round =>
    obtain ⟨rfl, rfl⟩ := hrel
    go_wp2
    go_ret2
    exact ⟨rfl, rfl⟩
set_option maxHeartbeats 1000000 in
theorem from_at {w : World} {g base : Nat} {v : Value} {L : List Run} {N : Int} (h : Fre w g base v L N) (hs : Srt L) (a : Int) (i : Nat) (hi : IsLo L a i) :
    Calls Try.prog 61 #[.pointer (some ⟨g, 0, none⟩), .int .i64 a] w fun e w' => e = .returned (.int .i64 i) ∧ Ext w w' := by
  rcases own_rw h.own with ⟨rfl, rfl⟩ | ⟨gr, cap, cur, rfl, hbase, hr⟩
  · obtain ⟨r1, r2, r3⟩ := h.blk.rules
    obtain rfl : i = 0 := by have := hi.le; simpa using this
    clear hi hs h
    go_enter Try.func61, Try.ntmps61
    go_wp2_with fail
    refine (search_nil _ _).mono ?_
    rintro e w1 ⟨rfl, rfl⟩
    go_wp2_with fail
    go_ret
    exact ⟨rfl, Ext.refl _⟩
  · obtain ⟨r1, r2, r3⟩ := h.blk.rules
    have hl := h.len
    have HS := Lib.hid (search hr hs (by omega) a i hi)
    clear hi hs h hr
    generalize L.length = len at *
    go_enter Try.func61, Try.ntmps61
    go_wp2_with fail
    refine HS.out.mono ?_
    rintro e w1 ⟨⟨b, rfl⟩, x1⟩
    go_wp2_with fail
    go_ret
    exact ⟨rfl, x1⟩
end Go.Proofs.Ytjpalcejmloocaa.Free
