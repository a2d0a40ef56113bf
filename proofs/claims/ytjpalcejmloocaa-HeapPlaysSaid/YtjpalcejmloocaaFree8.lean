/-
  Contracts of package free (chapter 4): Give, where there is room.
-/
import Derived.Test.YtjpalcejmloocaaFree7
import Derived.BigRegion
namespace Go.Proofs.Ytjpalcejmloocaa.Free
open Go.RowKit Go.Proofs.Ytjpalcejmloocaa.Plain
set_option linter.unusedVariables false

theorem wp_scope_enter {P : Program} {a : Act} {w : World} {Q : Exit → Act → World → Prop} {c b : Code} (l : Nat) (J : Act → World → Prop) (μ : Act → World → Nat) (hf : findLabel c l = some (.seq .skip b))
    (pass : ∀ a w, J a w → b.wp P (Exit.jump l (fun a' w' => J a' w' ∧ μ a' w' < μ a w) Q) a w)
    (first : (∀ a w, J a w → b.wp P (Exit.jump l J Q) a w) → c.wp P (Exit.jump l J Q) a w) : (Code.scope c).wp P Q a w :=
  wp_scope_jumps l J μ hf (first (fun a w h => wp_mono (pass a w h) (fun e a' w' h' => by
    cases e <;> first | exact h' | exact ⟨h'.1, h'.2.1⟩))) (fun a w h => wp_seq (wp_skip (pass a w h)))
theorem Rw.set2 {w : World} {g cap : Nat} {cur : Array Value} {L : List Run} (h : Rw w g cap cur L) (b : Nat) (hb : b < L.length) (z : Int) :
    Rw (w.setCell ⟨g, b * 2 + 1, none⟩ (.int .i64 z)) g cap (cur.setIfInBounds (b * 2 + 1) (.int .i64 z)) (L.set b ((nth L b).1, z)) := by
  have hs := h.size
  have hle := h.le
  refine ⟨h.blk.set _ _, by simpa using hle, h.capLe, by simpa using hs, fun j r hj => ?_⟩
  rw [List.getElem?_set] at hj
  by_cases hjb : b = j
  · subst hjb
    rw [if_pos rfl, if_pos hb] at hj
    injection hj with hj
    subst hj
    refine ⟨?_, ?_⟩
    · rw [Array.getElem?_setIfInBounds_ne (by omega)]
      exact (h.at_ b _ (nth_some L b hb)).1
    · rw [Array.getElem?_setIfInBounds_self_of_lt (by omega)]
  · rw [if_neg hjb] at hj
    rw [Array.getElem?_setIfInBounds_ne (by omega), Array.getElem?_setIfInBounds_ne (by omega)]
    exact h.at_ j r hj
theorem merge_set {L : List Run} {i : Nat} (h : i + 1 < L.length) : (L.set i ((nth L i).1, (nth L i).2 + (nth L (i + 1)).2)).eraseIdx (i + 1) = mergeAt L i := by
  have hr := nth_some L i (by omega)
  have hs := nth_some L (i + 1) h
  apply List.ext_getElem?
  intro j
  rw [merge_at hr hs, List.getElem?_eraseIdx]
  by_cases h1 : j < i
  · rw [if_pos h1, if_pos (by omega), List.getElem?_set_ne (by omega)]
  · rw [if_neg h1]
    by_cases h2 : j = i
    · subst h2; rw [if_pos rfl, if_pos (by omega), List.getElem?_set_self (by omega)]
    · rw [if_neg h2, if_neg (by omega), List.getElem?_set_ne (by omega)]
def Bd (L : List Run) : Prop := ∀ r ∈ L, 0 ≤ r.1 ∧ 1 ≤ r.2 ∧ r.1 + r.2 ≤ 65536
theorem merge_bd {L : List Run} {i : Nat} (h : i + 1 < L.length) (hb : Bd L) (he : (nth L i).1 + (nth L i).2 = (nth L (i + 1)).1) : Bd (mergeAt L i) := by
  intro r hr
  have h1 := nth_some L i (by omega)
  have h2 := nth_some L (i + 1) h
  rw [merge_eq h1 h2] at hr
  have b1 := hb _ (nth_mem L i (by omega))
  have b2 := hb _ (nth_mem L (i + 1) h)
  rcases List.mem_append.1 hr with hr | hr
  · exact hb r (List.mem_of_mem_take hr)
  · rcases List.mem_cons.1 hr with rfl | hr
    · exact ⟨b1.1, by show 1 ≤ (nth L i).2 + (nth L (i + 1)).2; omega, by show (nth L i).1 + ((nth L i).2 + (nth L (i + 1)).2) ≤ 65536; omega⟩
    · exact hb r (List.mem_of_mem_drop hr)
theorem merge_len {L : List Run} {i : Nat} (h : i + 1 < L.length) : (mergeAt L i).length = L.length - 1 := by
  rw [merge_eq (nth_some L i (by omega)) (nth_some L (i + 1) h)]; simp; omega
theorem own_lt {w : World} {base : Nat} {e : TypeId} {size n k : Nat} {v : Value} {xs : List Value} (h : w.ownsRow base e size v n xs) (hk : v.ownBlock = some k) : k < w.heap.size := by
  rcases h.2 with ⟨rfl, _⟩ | ⟨r, cap, cur, rfl, hb, hg, _⟩
  · cases hk
  · simp [Value.ownBlock] at hk
    subst hk
    exact (Array.getElem?_eq_some_iff.1 hg).1
theorem Fre.apart {w : World} {g base : Nat} {v : Value} {L : List Run} {N : Int} (h : Fre w g base v L N) : v.ownBlock ≠ some g := by
  intro hk
  rcases own_rw h.own with ⟨rfl, _⟩ | ⟨r, cap, cur, rfl, hb, hr⟩
  · cases hk
  · simp [Value.ownBlock] at hk
    exact h.blk.ne hr.blk (by decide) hk.symm
theorem own_apart {w : World} {g base n : Nat} {v : Value} {xs : List Value} {cs : Array Value} (h : w.ownsRow base 78 2 v n xs) (b : Blk w g 77 cs) : v.ownBlock ≠ some g := by
  intro hk
  rcases h.2 with ⟨rfl, _⟩ | ⟨r, cap, cur, rfl, hb, hr, _⟩
  · cases hk
  · simp [Value.ownBlock] at hk
    subst hk
    exact Blk.ne (t' := 78) b hr (by decide) rfl
theorem ins_bd {L : List Run} {i : Nat} {a n : Int} (h : Bd L) (ha : 0 ≤ a) (hn : 1 ≤ n) (hs : a + n ≤ 65536) : Bd (ins L i (a, n)) := by
  intro r hr
  unfold ins at hr
  rcases List.mem_append.1 hr with hr | hr
  · exact h r (List.mem_of_mem_take hr)
  · rcases List.mem_cons.1 hr with rfl | hr
    · exact ⟨ha, hn, hs⟩
    · exact h r (List.mem_of_mem_drop hr)
theorem fre_get {w : World} {g base len cap : Nat} {V : Option Addr} {L : List Run} {N : Int} (h : Fre w g base (.slice V len cap) L N) (hl : L.length = len) (h0 : 0 < len) : ∃ gr cur, V = some ⟨gr, 0, none⟩ ∧ base ≤ gr ∧ Rw w gr cap cur L := by
  rcases own_rw h.own with ⟨hh, hL⟩ | ⟨gr, cap', cur, hh, hbase, hr⟩
  · rw [hL] at hl; simp at hl; omega
  · injection hh with h5 h6 h7
    subst h5; subst h7
    exact ⟨gr, cur, rfl, hbase, hr⟩
/-- the slots at the label -/
def Slt (g : Nat) (a n : Int) (k last : Nat) (act : Act) : Prop := ∃ u : Nat → Value, act = { tmps := #[.pointer (some ⟨g, 0, none⟩), .int .i64 a, .int .i64 n, u 3, u 4, u 5, .bool false, .int .i64 k, .int .i64 last, u 9, u 10, u 11, u 12, u 13, u 14, u 15, u 16, u 17, u 18, u 19, u 20, u 21, u 22, u 23, u 24, u 25, u 26, u 27, u 28, u 29, u 30, u 31, u 32, u 33, u 34, u 35, u 36, u 37, u 38, u 39, u 40, u 41, u 42, u 43, u 44, u 45, u 46, u 47, u 48, u 49, u 50, u 51, u 52, u 53, u 54, u 55, u 56, u 57, u 58, u 59, u 60, u 61, u 62, u 63, u 64, u 65, u 66, u 67, u 68, u 69, u 70, u 71, u 72, u 73, u 74, u 75, u 76, u 77, u 78, u 79, u 80, u 81, u 82, u 83, u 84, u 85, u 86, u 87, u 88, u 89, u 90, u 91, u 92, u 93, u 94, u 95, u 96, u 97, u 98, u 99, u 100, u 101, u 102, u 103, u 104, u 105, u 106, u 107, u 108, u 109, u 110, u 111, u 112, u 113, u 114, u 115, u 116, u 117, u 118, u 119, u 120, u 121, u 122, u 123, u 124, u 125, u 126, u 127, u 128, u 129, u 130, u 131, u 132, u 133, u 134, u 135, u 136, u 137, u 138, u 139, u 140, u 141, u 142, u 143, u 144, u 145, u 146, u 147, u 148, u 149, u 150, u 151, u 152, u 153, u 154, u 155], defers := [] }
theorem Slt.mk (g : Nat) (a n : Int) (k last : Nat) (x y : Int) (hx : x = k) (hy : y = last) (act : Act) (h : act = { tmps := #[.pointer (some ⟨g, 0, none⟩), .int .i64 a, .int .i64 n, act.tmps.getD 3 undef, act.tmps.getD 4 undef, act.tmps.getD 5 undef, .bool false, .int .i64 x, .int .i64 y, act.tmps.getD 9 undef, act.tmps.getD 10 undef, act.tmps.getD 11 undef, act.tmps.getD 12 undef, act.tmps.getD 13 undef, act.tmps.getD 14 undef, act.tmps.getD 15 undef, act.tmps.getD 16 undef, act.tmps.getD 17 undef, act.tmps.getD 18 undef, act.tmps.getD 19 undef, act.tmps.getD 20 undef, act.tmps.getD 21 undef, act.tmps.getD 22 undef, act.tmps.getD 23 undef, act.tmps.getD 24 undef, act.tmps.getD 25 undef, act.tmps.getD 26 undef, act.tmps.getD 27 undef, act.tmps.getD 28 undef, act.tmps.getD 29 undef, act.tmps.getD 30 undef, act.tmps.getD 31 undef, act.tmps.getD 32 undef, act.tmps.getD 33 undef, act.tmps.getD 34 undef, act.tmps.getD 35 undef, act.tmps.getD 36 undef, act.tmps.getD 37 undef, act.tmps.getD 38 undef, act.tmps.getD 39 undef, act.tmps.getD 40 undef, act.tmps.getD 41 undef, act.tmps.getD 42 undef, act.tmps.getD 43 undef, act.tmps.getD 44 undef, act.tmps.getD 45 undef, act.tmps.getD 46 undef, act.tmps.getD 47 undef, act.tmps.getD 48 undef, act.tmps.getD 49 undef, act.tmps.getD 50 undef, act.tmps.getD 51 undef, act.tmps.getD 52 undef, act.tmps.getD 53 undef, act.tmps.getD 54 undef, act.tmps.getD 55 undef, act.tmps.getD 56 undef, act.tmps.getD 57 undef, act.tmps.getD 58 undef, act.tmps.getD 59 undef, act.tmps.getD 60 undef, act.tmps.getD 61 undef, act.tmps.getD 62 undef, act.tmps.getD 63 undef, act.tmps.getD 64 undef, act.tmps.getD 65 undef, act.tmps.getD 66 undef, act.tmps.getD 67 undef, act.tmps.getD 68 undef, act.tmps.getD 69 undef, act.tmps.getD 70 undef, act.tmps.getD 71 undef, act.tmps.getD 72 undef, act.tmps.getD 73 undef, act.tmps.getD 74 undef, act.tmps.getD 75 undef, act.tmps.getD 76 undef, act.tmps.getD 77 undef, act.tmps.getD 78 undef, act.tmps.getD 79 undef, act.tmps.getD 80 undef, act.tmps.getD 81 undef, act.tmps.getD 82 undef, act.tmps.getD 83 undef, act.tmps.getD 84 undef, act.tmps.getD 85 undef, act.tmps.getD 86 undef, act.tmps.getD 87 undef, act.tmps.getD 88 undef, act.tmps.getD 89 undef, act.tmps.getD 90 undef, act.tmps.getD 91 undef, act.tmps.getD 92 undef, act.tmps.getD 93 undef, act.tmps.getD 94 undef, act.tmps.getD 95 undef, act.tmps.getD 96 undef, act.tmps.getD 97 undef, act.tmps.getD 98 undef, act.tmps.getD 99 undef, act.tmps.getD 100 undef, act.tmps.getD 101 undef, act.tmps.getD 102 undef, act.tmps.getD 103 undef, act.tmps.getD 104 undef, act.tmps.getD 105 undef, act.tmps.getD 106 undef, act.tmps.getD 107 undef, act.tmps.getD 108 undef, act.tmps.getD 109 undef, act.tmps.getD 110 undef, act.tmps.getD 111 undef, act.tmps.getD 112 undef, act.tmps.getD 113 undef, act.tmps.getD 114 undef, act.tmps.getD 115 undef, act.tmps.getD 116 undef, act.tmps.getD 117 undef, act.tmps.getD 118 undef, act.tmps.getD 119 undef, act.tmps.getD 120 undef, act.tmps.getD 121 undef, act.tmps.getD 122 undef, act.tmps.getD 123 undef, act.tmps.getD 124 undef, act.tmps.getD 125 undef, act.tmps.getD 126 undef, act.tmps.getD 127 undef, act.tmps.getD 128 undef, act.tmps.getD 129 undef, act.tmps.getD 130 undef, act.tmps.getD 131 undef, act.tmps.getD 132 undef, act.tmps.getD 133 undef, act.tmps.getD 134 undef, act.tmps.getD 135 undef, act.tmps.getD 136 undef, act.tmps.getD 137 undef, act.tmps.getD 138 undef, act.tmps.getD 139 undef, act.tmps.getD 140 undef, act.tmps.getD 141 undef, act.tmps.getD 142 undef, act.tmps.getD 143 undef, act.tmps.getD 144 undef, act.tmps.getD 145 undef, act.tmps.getD 146 undef, act.tmps.getD 147 undef, act.tmps.getD 148 undef, act.tmps.getD 149 undef, act.tmps.getD 150 undef, act.tmps.getD 151 undef, act.tmps.getD 152 undef, act.tmps.getD 153 undef, act.tmps.getD 154 undef, act.tmps.getD 155 undef], defers := [] }) : Slt g a n k last act := by
  subst hx; subst hy; exact ⟨fun j => act.tmps.getD j undef, h⟩
theorem Slt.intro (g : Nat) (a n : Int) (k last : Nat) (act : Act) (h : act = { tmps := #[.pointer (some ⟨g, 0, none⟩), .int .i64 a, .int .i64 n, act.tmps.getD 3 undef, act.tmps.getD 4 undef, act.tmps.getD 5 undef, .bool false, .int .i64 k, .int .i64 last, act.tmps.getD 9 undef, act.tmps.getD 10 undef, act.tmps.getD 11 undef, act.tmps.getD 12 undef, act.tmps.getD 13 undef, act.tmps.getD 14 undef, act.tmps.getD 15 undef, act.tmps.getD 16 undef, act.tmps.getD 17 undef, act.tmps.getD 18 undef, act.tmps.getD 19 undef, act.tmps.getD 20 undef, act.tmps.getD 21 undef, act.tmps.getD 22 undef, act.tmps.getD 23 undef, act.tmps.getD 24 undef, act.tmps.getD 25 undef, act.tmps.getD 26 undef, act.tmps.getD 27 undef, act.tmps.getD 28 undef, act.tmps.getD 29 undef, act.tmps.getD 30 undef, act.tmps.getD 31 undef, act.tmps.getD 32 undef, act.tmps.getD 33 undef, act.tmps.getD 34 undef, act.tmps.getD 35 undef, act.tmps.getD 36 undef, act.tmps.getD 37 undef, act.tmps.getD 38 undef, act.tmps.getD 39 undef, act.tmps.getD 40 undef, act.tmps.getD 41 undef, act.tmps.getD 42 undef, act.tmps.getD 43 undef, act.tmps.getD 44 undef, act.tmps.getD 45 undef, act.tmps.getD 46 undef, act.tmps.getD 47 undef, act.tmps.getD 48 undef, act.tmps.getD 49 undef, act.tmps.getD 50 undef, act.tmps.getD 51 undef, act.tmps.getD 52 undef, act.tmps.getD 53 undef, act.tmps.getD 54 undef, act.tmps.getD 55 undef, act.tmps.getD 56 undef, act.tmps.getD 57 undef, act.tmps.getD 58 undef, act.tmps.getD 59 undef, act.tmps.getD 60 undef, act.tmps.getD 61 undef, act.tmps.getD 62 undef, act.tmps.getD 63 undef, act.tmps.getD 64 undef, act.tmps.getD 65 undef, act.tmps.getD 66 undef, act.tmps.getD 67 undef, act.tmps.getD 68 undef, act.tmps.getD 69 undef, act.tmps.getD 70 undef, act.tmps.getD 71 undef, act.tmps.getD 72 undef, act.tmps.getD 73 undef, act.tmps.getD 74 undef, act.tmps.getD 75 undef, act.tmps.getD 76 undef, act.tmps.getD 77 undef, act.tmps.getD 78 undef, act.tmps.getD 79 undef, act.tmps.getD 80 undef, act.tmps.getD 81 undef, act.tmps.getD 82 undef, act.tmps.getD 83 undef, act.tmps.getD 84 undef, act.tmps.getD 85 undef, act.tmps.getD 86 undef, act.tmps.getD 87 undef, act.tmps.getD 88 undef, act.tmps.getD 89 undef, act.tmps.getD 90 undef, act.tmps.getD 91 undef, act.tmps.getD 92 undef, act.tmps.getD 93 undef, act.tmps.getD 94 undef, act.tmps.getD 95 undef, act.tmps.getD 96 undef, act.tmps.getD 97 undef, act.tmps.getD 98 undef, act.tmps.getD 99 undef, act.tmps.getD 100 undef, act.tmps.getD 101 undef, act.tmps.getD 102 undef, act.tmps.getD 103 undef, act.tmps.getD 104 undef, act.tmps.getD 105 undef, act.tmps.getD 106 undef, act.tmps.getD 107 undef, act.tmps.getD 108 undef, act.tmps.getD 109 undef, act.tmps.getD 110 undef, act.tmps.getD 111 undef, act.tmps.getD 112 undef, act.tmps.getD 113 undef, act.tmps.getD 114 undef, act.tmps.getD 115 undef, act.tmps.getD 116 undef, act.tmps.getD 117 undef, act.tmps.getD 118 undef, act.tmps.getD 119 undef, act.tmps.getD 120 undef, act.tmps.getD 121 undef, act.tmps.getD 122 undef, act.tmps.getD 123 undef, act.tmps.getD 124 undef, act.tmps.getD 125 undef, act.tmps.getD 126 undef, act.tmps.getD 127 undef, act.tmps.getD 128 undef, act.tmps.getD 129 undef, act.tmps.getD 130 undef, act.tmps.getD 131 undef, act.tmps.getD 132 undef, act.tmps.getD 133 undef, act.tmps.getD 134 undef, act.tmps.getD 135 undef, act.tmps.getD 136 undef, act.tmps.getD 137 undef, act.tmps.getD 138 undef, act.tmps.getD 139 undef, act.tmps.getD 140 undef, act.tmps.getD 141 undef, act.tmps.getD 142 undef, act.tmps.getD 143 undef, act.tmps.getD 144 undef, act.tmps.getD 145 undef, act.tmps.getD 146 undef, act.tmps.getD 147 undef, act.tmps.getD 148 undef, act.tmps.getD 149 undef, act.tmps.getD 150 undef, act.tmps.getD 151 undef, act.tmps.getD 152 undef, act.tmps.getD 153 undef, act.tmps.getD 154 undef, act.tmps.getD 155 undef], defers := [] }) : Slt g a n k last act := ⟨fun j => act.tmps.getD j undef, h⟩
/-- what holds at the label -/
def GJ (w0 : World) (g base N : Nat) (a n : Int) (res : List Run) (act : Act) (wr : World) : Prop :=
  ∃ (k last : Nat) (v : Value) (L : List Run), Slt g a n k last act ∧ Fre wr g base v L N ∧ joinLoop L k last = res ∧ last < L.length ∧ TK w0 g base wr

set_option maxRecDepth 100000 in
set_option maxHeartbeats 4000000 in
theorem give_yes {w : World} {g base : Nat} {v : Value} {L : List Run} {N : Nat} (h : Fre w g base v L N) (hs : Srt L) (hN : N ≤ 65536) (a n : Int) (h1 : 1 ≤ n) (h2 : 0 ≤ a) (h3 : n ≤ N) (h4 : a ≤ (N : Int) - n) (i : Nat) (hi : IsLo L a i)
    (m1 : i < L.length → a + n ≤ (nth L i).1) (m2 : 0 < i → (nth L (i - 1)).1 + (nth L (i - 1)).2 ≤ a) (hb : base ≤ w.heap.size) (hl : L.length < 70000) :
    Calls Try.prog 49 #[.pointer (some ⟨g, 0, none⟩), .int .i64 a, .int .i64 n] w fun e w' => e = .returned (.bool true) ∧ (∃ v', Fre w' g base v' (givenL L i (a, n)) N) ∧ TK w g base w' := by
  obtain ⟨res, hres⟩ : ∃ res, res = givenL L i (a, n) := ⟨_, rfl⟩
  rw [← hres]
  have HRES := Lib.hid hres
  clear hres
  go_enter Try.func49, Try.ntmps49
  go_wp2
  refine wp_scope_enter 0 (GJ w g base N a n res) (fun a' _ => (intOf (a'.tmps.getD 8 undef)).toNat - (intOf (a'.tmps.getD 7 undef)).toNat) rfl ?_ ?_
  · clear h hs hi m1 m2 hb hl HRES
    clear v L i
    rintro act wr ⟨k, last, v, L, ⟨u, rfl⟩, fr, hj, hlast, tk⟩
    have hlen := fr.len
    have BW := Lib.hid fr.blk
    obtain ⟨r1, r2, r3⟩ := fr.blk.rules
    have HB : Hid (Bd L) := Lib.hid fr.bd
    have TKH := Lib.hid tk
    have FR := Lib.hid fr
    rcases own_rw fr.own with ⟨rfl, rfl⟩ | ⟨gr, cap, cur, rfl, hbase, hr⟩
    · simp at hlast
    have OW := Lib.hid fr.own
    have HR := Lib.hid hr
    have HJ := Lib.hid hj
    have hgr := hr.blk.lt
    have hne : g ≠ gr := fr.blk.ne hr.blk (by decide)
    clear fr tk hr hj
    generalize hll : L.length = len at *
    have HL := Lib.hid hll
    clear hll
    by_cases hlt : k < last
    · trace "5"
      obtain ⟨c1, c2⟩ := HR.out.get (Ext.refl _) k (by rw [HL.out]; omega)
      obtain ⟨c3, c4⟩ := HR.out.get (Ext.refl _) (k + 1) (by rw [HL.out]; omega)
      obtain ⟨b1, b2, b3⟩ := HB.out _ (nth_mem L k (by rw [HL.out]; omega))
      obtain ⟨b4, b5, b6⟩ := HB.out _ (nth_mem L (k + 1) (by rw [HL.out]; omega))
      have d1 : decide (last ≤ k) = false := by simp; omega
      have d1' : decide ((last : Int) ≤ (k : Int)) = false := by simp; omega
      have f1 : ((k : Int) + 1).toNat = k + 1 := by omega
      have f2 : 0 ≤ (k : Int) + 1 := by omega
      have f3 : (k : Int) + 1 < (len : Int) := by omega
      have f4 : (k : Int) < (len : Int) := by omega
      by_cases he : (nth L k).1 + (nth L k).2 = (nth L (k + 1)).1
      · have JY := Lib.hid (join_yes L k last _ _ hlt (nth_some L k (by rw [HL.out]; omega)) (nth_some L (k + 1) (by rw [HL.out]; omega)) he)
        have e1 : ((nth L k).1 + (nth L k).2 != (nth L (k + 1)).1) = false := by simpa using he
        have MS := Lib.hid (merge_set (L := L) (i := k) (by rw [HL.out]; omega))
        have MB := Lib.hid (merge_bd (L := L) (i := k) (by rw [HL.out]; omega) HB.out he)
        have ML := Lib.hid (merge_len (L := L) (i := k) (by rw [HL.out]; omega))
        have RS := Lib.hid (HR.out.set2 k (by rw [HL.out]; omega) ((nth L k).2 + (nth L (k + 1)).2))
        have b7 : (nth L k).2 + (nth L (k + 1)).2 ≤ 65536 := by omega
        clear he
        generalize nth L k = x at *
        generalize nth L (k + 1) = y at *
        obtain ⟨m, hm⟩ : ∃ m, len = k + 1 + 1 + m := ⟨len - (k + 2), by omega⟩
        subst hm
        have f5 : wr.frozen? ⟨gr, k * 2 + 1, none⟩ = false := HR.out.blk.frozen _
        go_wp2
        refine wp_region_ext (by kernel_rfl) (by kernel_rfl) ?_
        repeat (go_big_quiet_step ((go_at_call 62; exact calls_ext (end_ _ _ _ (by omega) (by omega) (by omega)))))
        refine wpQuiet_nil ?_
        rintro W ⟨xx, rfl⟩
        go_wp2
        go_region
        refine then_name (fun W hW => ?_)
        have RW := Lib.hid (RS.out.ext (w' := W) ⟨_, hW⟩)
        have BW2 := (BW.out.far (p := ⟨gr, k * 2 + 1, none⟩) hne _).ext (w' := W) ⟨_, hW⟩
        have KW : Hid (Keep (fun j => j = g ∨ some gr = some j) wr W) := Lib.hid (((Keep.refl _ wr).setCell (p := ⟨gr, k * 2 + 1, none⟩) (.inr rfl) _).ext ⟨_, hW⟩)
        obtain ⟨t1, t2, t3⟩ := BW2.rules
        have BW3 := Lib.hid BW2
        clear hW BW2 c1 c2 c3 c4 r1 r2
        go_wp2_with fail
        rw [show (k : Int) + 2 = ((k + 1 : Nat) : Int) + 1 from by omega, show (k : Int) + 1 = ((k + 1 : Nat) : Int) from by omega]
        refine (delete RW.out (by rw [List.length_set, HL.out]) (by rw [List.length_set, HL.out]; omega)).mono ?_
        rintro e w2 ⟨rfl, ⟨cur', r2'⟩, k2⟩
        rw [MS.out] at r2'
        have B2 := BW3.out.keep k2 hne
        obtain ⟨u1, u2, u3⟩ := B2.rules
        have HB2 := Lib.hid B2
        have HR2 := Lib.hid r2'
        have HK2 := Lib.hid k2
        clear B2 r2' k2
        have lp : (1 : Int) ≤ (last : Int) := by omega
        go_wp2_with fail
        go_step3
        have FN : Fre (w2.setCell ⟨g, 1, none⟩ (.slice (some ⟨gr, 0, none⟩) (k + 1 + m) cap)) g base (.slice (some ⟨gr, 0, none⟩) (k + 1 + m) cap) (mergeAt L k) N := by
          refine ⟨HB2.out.set 1 _, ?_, by rw [ML.out, HL.out]; omega, MB.out⟩
          have := (HR2.out.keep ((Keep.refl (· = g) w2).setCell (p := ⟨g, 1, none⟩) rfl (.slice (some ⟨gr, 0, none⟩) (k + 1 + m) cap)) (fun e => hne e.symm)).own hbase
          rw [ML.out, HL.out, show k + 1 + 1 + m - 1 = k + 1 + m from by omega] at this ⊢
          exact this
        have KN : Keep (fun j => j = g ∨ some gr = some j) wr (w2.setCell ⟨g, 1, none⟩ (.slice (some ⟨gr, 0, none⟩) (k + 1 + m) cap)) :=
          (KW.out.trans (HK2.out.mono (fun j hj => .inr (by rw [hj])))).setCell (p := ⟨g, 1, none⟩) (.inl rfl) _
        rw [show (last : Int) - 1 = ((last - 1 : Nat) : Int) from by omega]
        refine ⟨rfl, ⟨k, last - 1, _, mergeAt L k, Slt.intro _ _ _ _ _ _ rfl, FN, by rw [← JY.out]; exact HJ.out, by rw [ML.out, HL.out]; omega, TKH.out.step OW.out KN⟩, ?_⟩
        simp [intOf]; omega
      · have JN := Lib.hid (join_no L k last _ _ hlt (nth_some L k (by rw [HL.out]; omega)) (nth_some L (k + 1) (by rw [HL.out]; omega)) he)
        have e1 : ((nth L k).1 + (nth L k).2 != (nth L (k + 1)).1) = true := by simpa using he
        clear he
        generalize nth L k = x at *
        generalize nth L (k + 1) = y at *
        go_wp2
        refine wp_region_ext (by kernel_rfl) (by kernel_rfl) ?_
        repeat (go_big_quiet_step ((go_at_call 62; exact calls_ext (end_ _ _ _ (by omega) (by omega) (by omega)))))
        refine wpQuiet_nil ?_
        rintro W ⟨xx, rfl⟩
        go_wp2
        go_step3
        refine ⟨rfl, ⟨k + 1, last, _, L, Slt.intro _ _ _ _ _ _ rfl, FR.out.ext ⟨xx, rfl⟩, by rw [← JN.out]; exact HJ.out, by rw [HL.out]; exact hlast, TKH.out.ext ⟨xx, rfl⟩⟩, ?_⟩
        simp [intOf]; omega
    · have d1 : decide (last ≤ k) = true := by simp; omega
      have d1' : decide ((last : Int) ≤ (k : Int)) = true := by simp; omega
      have JE := Lib.hid (join_end L k last hlt)
      go_wp2
      simp only [Exit.jump]
      go_ret
      refine ⟨rfl, ⟨_, by rw [← HJ.out, JE.out]; exact FR.out⟩, TKH.out⟩
  · intro body
    have hle := hi.le
    have FR := Lib.hid (from_at h hs a i hi)
    obtain ⟨r1, r2, r3⟩ := h.blk.rules
    have HBD : Hid (Bd L) := Lib.hid h.bd
    have hlen := h.len
    have HF := Lib.hid h
    have d1 : decide (n < 1) = false := by simp; omega
    have d2 : decide (a < 0) = false := by simp; omega
    have d3 : decide ((N : Int) < n) = false := by simp; omega
    have d4 : decide ((N : Int) - n < a) = false := by simp; omega
    have M1 := Lib.hid m1
    have M2 := Lib.hid m2
    have HBODY := Lib.hid body
    obtain ⟨V, cap, rfl, hcap0, hcap1⟩ := own_form h.own
    generalize hll : L.length = len at *
    have HL := Lib.hid hll
    clear h hi hs hll m1 m2 body
    go_wp2_with fail
    refine FR.out.mono ?_
    rintro e w1 ⟨rfl, x1⟩
    have X1 := Lib.hid x1
    have F1 := HF.out.ext x1
    have cv : w1.cell? ⟨g, 1, none⟩ = some (.slice V len cap) := (x1.below.cell (p := ⟨g, 1, none⟩) r3).trans (r1 1)
    have hgw : g < w1.heap.size := by have := x1.below.size; omega
    have hf1 : w1.frozen? ⟨g, 1, none⟩ = false := (x1.below.frozen (p := ⟨g, 1, none⟩) r3).trans (r2 1)
    have HF1 := Lib.hid F1
    clear r1 r2 x1 F1
    by_cases c2 : i < len
    · by_cases c0 : 0 < i
      · skip
        obtain ⟨gr, cur, rfl, hbase, hr⟩ := fre_get HF1.out HL.out (by omega)
        have HR := Lib.hid hr
        have hgr := hr.blk.lt
        clear hr
        obtain ⟨p1, p2⟩ := HR.out.get (Ext.refl _) i (by rw [HL.out]; exact c2)
        have e1 : decide ((i : Int) < (len : Int)) = true := by simp; omega
        have e1' : decide (i < len) = true := by simp; omega
        have e2 : decide ((nth L i).1 < a + n) = false := decide_eq_false (Int.not_lt.2 (M1.out c2))
        have e3 : (i : Int) < (len : Int) := by omega
        obtain ⟨q1, q2⟩ := HR.out.get (Ext.refl _) (i - 1) (by rw [HL.out]; omega)
        obtain ⟨m1, m2, m3⟩ := HBD.out _ (nth_mem L (i - 1) (by rw [HL.out]; omega))
        have f1 : ((i : Int) - 1).toNat = i - 1 := by omega
        have f2 : 0 ≤ (i : Int) - 1 := by omega
        have f3 : (i : Int) - 1 < (len : Int) := by omega
        have f4 : decide (0 < (i : Int)) = true := by simp; omega
        have f4' : decide (0 < i) = true := by simp; omega
        have f5 : decide (a < (nth L (i - 1)).1 + (nth L (i - 1)).2) = false := decide_eq_false (Int.not_lt.2 (M2.out c0))
        have m4 : (nth L (i - 1)).1 + (nth L (i - 1)).2 ≤ a := M2.out c0
        generalize nth L i = x at *
        generalize nth L (i - 1) = y at *
        go_wp2_with fail
        refine (end_ _ _ _ (by omega) (by omega) (by omega)).mono ?_
        rintro e w2 ⟨rfl, x2⟩
        have X2 := Lib.hid x2
        have cv2 : w2.cell? ⟨g, 1, none⟩ = some (.slice (some ⟨gr, 0, none⟩) len cap) := (x2.below.cell (p := ⟨g, 1, none⟩) hgw).trans cv
        have hgw2 : g < w2.heap.size := by have := x2.below.size; omega
        have hf2 : w2.frozen? ⟨g, 1, none⟩ = false := (x2.below.frozen (p := ⟨g, 1, none⟩) hgw).trans hf1
        clear x2
        have FW := (HF1.out.ext (X2.out.alloc (.cells #[.int .i64 a, .int .i64 n] 78)))
        have HFW := Lib.hid FW
        have LT : w2.heap.size < (w2.alloc (.cells #[.int .i64 a, .int .i64 n] 78)).heap.size := (Blk.new _ _ _).lt
        have BL : base ≤ w2.heap.size := by have := X1.out.below.size; have := X2.out.below.size; omega
        have APO := Lib.hid (fun hk => Nat.lt_irrefl _ (own_lt (HF1.out.ext X2.out).own (k := w2.heap.size) hk))
        have APG := Lib.hid HF1.out.apart
        clear FW
        go_wp2_with fail
        refine (insert (base := base) (L := L) (i := i) (x := a) (y := n) (by have := HFW.out.own; rw [HL.out] at this; rw [HL.out]; exact this) (by rw [HL.out]; exact hle) (by rw [HL.out]; omega) (Blk.new _ _ _) (by omega) APO.out).mono ?_
        rintro e w3 ⟨v', rfl, own', kp⟩
        have IL : Hid ((ins L i (a, n)).length = len + 1) := Lib.hid (by rw [ins_len _ _ _ (by rw [HL.out]; exact hle), HL.out])
        have OW' := Lib.hid own'
        have KP := Lib.hid kp
        have B3 := HFW.out.blk.keep kp APG.out
        obtain ⟨t1, t2, t3⟩ := B3.rules
        have HB3 := Lib.hid B3
        obtain ⟨V', cap', rfl, hc0, hc1⟩ := own_form own'
        rw [IL.out] at hc0 ⊢
        clear own' kp B3 cv hf1
        go_wp2_with fail
        all_goals go_step3
        all_goals
          have FN : Fre (w3.setCell ⟨g, 1, none⟩ (.slice V' (len + 1) cap')) g base (.slice V' (len + 1) cap') (ins L i (a, n)) N := by
            refine ⟨HB3.out.set 1 _, ?_, by rw [IL.out]; omega, ins_bd HBD.out h2 h1 (by omega)⟩
            have := own_keep OW'.out ((Keep.refl (· = g) w3).setCell (p := ⟨g, 1, none⟩) rfl (.slice V' (len + 1) cap')) (fun j hj e => ?_)
            · rw [IL.out] at this ⊢; exact this
            · subst e; exact own_apart OW'.out HB3.out hj
          have TN : TK w g base (w3.setCell ⟨g, 1, none⟩ (.slice V' (len + 1) cap')) :=
            (TK.refl w g base |>.ext (X1.out.trans (X2.out.alloc _))).step HFW.out.own ((KP.out.mono (fun j hj => .inr hj)).setCell (p := ⟨g, 1, none⟩) (.inl rfl) _)
          refine ‹∀ (a_1 : Act) (w_1 : World), Code.wp _ _ (Exit.jump 0 (GJ w g base N a n res) _) a_1 w_1 → _› _ _ ?_
          refine HBODY.out _ _ ⟨i - 1, min (i - 1 + 2) len, _, ins L i (a, n), Slt.mk _ _ _ _ _ _ _ ?_ ?_ _ rfl, FN, ?_, ?_, TN⟩
          · omega
          · omega
          · rw [HRES.out, givenL, HL.out]
          · rw [IL.out]; omega
      · skip
        obtain ⟨gr, cur, rfl, hbase, hr⟩ := fre_get HF1.out HL.out (by omega)
        have HR := Lib.hid hr
        have hgr := hr.blk.lt
        clear hr
        obtain ⟨p1, p2⟩ := HR.out.get (Ext.refl _) i (by rw [HL.out]; exact c2)
        have e1 : decide ((i : Int) < (len : Int)) = true := by simp; omega
        have e1' : decide (i < len) = true := by simp; omega
        have e2 : decide ((nth L i).1 < a + n) = false := decide_eq_false (Int.not_lt.2 (M1.out c2))
        have e3 : (i : Int) < (len : Int) := by omega
        have f4 : decide (0 < (i : Int)) = false := by simp; omega
        have f4' : decide (0 < i) = false := by simp; omega
        generalize nth L i = x at *
        obtain ⟨w2, hw2⟩ : ∃ w2, w2 = w1 := ⟨_, rfl⟩
        have x2 : Ext w1 w2 := by rw [hw2]; exact Ext.refl _
        rw [← hw2]
        rw [← hw2] at hgw cv hf1 p1 p2
        clear hw2
        have X2 := Lib.hid x2
        clear x2
        have FW := (HF1.out.ext (X2.out.alloc (.cells #[.int .i64 a, .int .i64 n] 78)))
        have HFW := Lib.hid FW
        have LT : w2.heap.size < (w2.alloc (.cells #[.int .i64 a, .int .i64 n] 78)).heap.size := (Blk.new _ _ _).lt
        have BL : base ≤ w2.heap.size := by have := X1.out.below.size; have := X2.out.below.size; omega
        have APO := Lib.hid (fun hk => Nat.lt_irrefl _ (own_lt (HF1.out.ext X2.out).own (k := w2.heap.size) hk))
        have APG := Lib.hid HF1.out.apart
        clear FW
        go_wp2_with fail
        refine (insert (base := base) (L := L) (i := i) (x := a) (y := n) (by have := HFW.out.own; rw [HL.out] at this; rw [HL.out]; exact this) (by rw [HL.out]; exact hle) (by rw [HL.out]; omega) (Blk.new _ _ _) (by omega) APO.out).mono ?_
        rintro e w3 ⟨v', rfl, own', kp⟩
        have IL : Hid ((ins L i (a, n)).length = len + 1) := Lib.hid (by rw [ins_len _ _ _ (by rw [HL.out]; exact hle), HL.out])
        have OW' := Lib.hid own'
        have KP := Lib.hid kp
        have B3 := HFW.out.blk.keep kp APG.out
        obtain ⟨t1, t2, t3⟩ := B3.rules
        have HB3 := Lib.hid B3
        obtain ⟨V', cap', rfl, hc0, hc1⟩ := own_form own'
        rw [IL.out] at hc0 ⊢
        clear own' kp B3 cv hf1
        go_wp2_with fail
        all_goals go_step3
        all_goals
          have FN : Fre (w3.setCell ⟨g, 1, none⟩ (.slice V' (len + 1) cap')) g base (.slice V' (len + 1) cap') (ins L i (a, n)) N := by
            refine ⟨HB3.out.set 1 _, ?_, by rw [IL.out]; omega, ins_bd HBD.out h2 h1 (by omega)⟩
            have := own_keep OW'.out ((Keep.refl (· = g) w3).setCell (p := ⟨g, 1, none⟩) rfl (.slice V' (len + 1) cap')) (fun j hj e => ?_)
            · rw [IL.out] at this ⊢; exact this
            · subst e; exact own_apart OW'.out HB3.out hj
          have TN : TK w g base (w3.setCell ⟨g, 1, none⟩ (.slice V' (len + 1) cap')) :=
            (TK.refl w g base |>.ext (X1.out.trans (X2.out.alloc _))).step HFW.out.own ((KP.out.mono (fun j hj => .inr hj)).setCell (p := ⟨g, 1, none⟩) (.inl rfl) _)
          refine ‹∀ (a_1 : Act) (w_1 : World), Code.wp _ _ (Exit.jump 0 (GJ w g base N a n res) _) a_1 w_1 → _› _ _ ?_
          refine HBODY.out _ _ ⟨i - 1, min (i - 1 + 2) len, _, ins L i (a, n), Slt.mk _ _ _ _ _ _ _ ?_ ?_ _ rfl, FN, ?_, ?_, TN⟩
          · omega
          · omega
          · rw [HRES.out, givenL, HL.out]
          · rw [IL.out]; omega
    · by_cases c0 : 0 < i
      · skip
        obtain ⟨gr, cur, rfl, hbase, hr⟩ := fre_get HF1.out HL.out (by omega)
        have HR := Lib.hid hr
        have hgr := hr.blk.lt
        clear hr
        have e1 : decide ((i : Int) < (len : Int)) = false := by simp; omega
        have e1' : decide (i < len) = false := by simp; omega
        obtain ⟨q1, q2⟩ := HR.out.get (Ext.refl _) (i - 1) (by rw [HL.out]; omega)
        obtain ⟨m1, m2, m3⟩ := HBD.out _ (nth_mem L (i - 1) (by rw [HL.out]; omega))
        have f1 : ((i : Int) - 1).toNat = i - 1 := by omega
        have f2 : 0 ≤ (i : Int) - 1 := by omega
        have f3 : (i : Int) - 1 < (len : Int) := by omega
        have f4 : decide (0 < (i : Int)) = true := by simp; omega
        have f4' : decide (0 < i) = true := by simp; omega
        have f5 : decide (a < (nth L (i - 1)).1 + (nth L (i - 1)).2) = false := decide_eq_false (Int.not_lt.2 (M2.out c0))
        have m4 : (nth L (i - 1)).1 + (nth L (i - 1)).2 ≤ a := M2.out c0
        generalize nth L (i - 1) = y at *
        go_wp2_with fail
        refine (end_ _ _ _ (by omega) (by omega) (by omega)).mono ?_
        rintro e w2 ⟨rfl, x2⟩
        have X2 := Lib.hid x2
        have cv2 : w2.cell? ⟨g, 1, none⟩ = some (.slice (some ⟨gr, 0, none⟩) len cap) := (x2.below.cell (p := ⟨g, 1, none⟩) hgw).trans cv
        have hgw2 : g < w2.heap.size := by have := x2.below.size; omega
        have hf2 : w2.frozen? ⟨g, 1, none⟩ = false := (x2.below.frozen (p := ⟨g, 1, none⟩) hgw).trans hf1
        clear x2
        have FW := (HF1.out.ext (X2.out.alloc (.cells #[.int .i64 a, .int .i64 n] 78)))
        have HFW := Lib.hid FW
        have LT : w2.heap.size < (w2.alloc (.cells #[.int .i64 a, .int .i64 n] 78)).heap.size := (Blk.new _ _ _).lt
        have BL : base ≤ w2.heap.size := by have := X1.out.below.size; have := X2.out.below.size; omega
        have APO := Lib.hid (fun hk => Nat.lt_irrefl _ (own_lt (HF1.out.ext X2.out).own (k := w2.heap.size) hk))
        have APG := Lib.hid HF1.out.apart
        clear FW
        go_wp2_with fail
        refine (insert (base := base) (L := L) (i := i) (x := a) (y := n) (by have := HFW.out.own; rw [HL.out] at this; rw [HL.out]; exact this) (by rw [HL.out]; exact hle) (by rw [HL.out]; omega) (Blk.new _ _ _) (by omega) APO.out).mono ?_
        rintro e w3 ⟨v', rfl, own', kp⟩
        have IL : Hid ((ins L i (a, n)).length = len + 1) := Lib.hid (by rw [ins_len _ _ _ (by rw [HL.out]; exact hle), HL.out])
        have OW' := Lib.hid own'
        have KP := Lib.hid kp
        have B3 := HFW.out.blk.keep kp APG.out
        obtain ⟨t1, t2, t3⟩ := B3.rules
        have HB3 := Lib.hid B3
        obtain ⟨V', cap', rfl, hc0, hc1⟩ := own_form own'
        rw [IL.out] at hc0 ⊢
        clear own' kp B3 cv hf1
        go_wp2_with fail
        all_goals go_step3
        all_goals
          have FN : Fre (w3.setCell ⟨g, 1, none⟩ (.slice V' (len + 1) cap')) g base (.slice V' (len + 1) cap') (ins L i (a, n)) N := by
            refine ⟨HB3.out.set 1 _, ?_, by rw [IL.out]; omega, ins_bd HBD.out h2 h1 (by omega)⟩
            have := own_keep OW'.out ((Keep.refl (· = g) w3).setCell (p := ⟨g, 1, none⟩) rfl (.slice V' (len + 1) cap')) (fun j hj e => ?_)
            · rw [IL.out] at this ⊢; exact this
            · subst e; exact own_apart OW'.out HB3.out hj
          have TN : TK w g base (w3.setCell ⟨g, 1, none⟩ (.slice V' (len + 1) cap')) :=
            (TK.refl w g base |>.ext (X1.out.trans (X2.out.alloc _))).step HFW.out.own ((KP.out.mono (fun j hj => .inr hj)).setCell (p := ⟨g, 1, none⟩) (.inl rfl) _)
          refine ‹∀ (a_1 : Act) (w_1 : World), Code.wp _ _ (Exit.jump 0 (GJ w g base N a n res) _) a_1 w_1 → _› _ _ ?_
          refine HBODY.out _ _ ⟨i - 1, min (i - 1 + 2) len, _, ins L i (a, n), Slt.mk _ _ _ _ _ _ _ ?_ ?_ _ rfl, FN, ?_, ?_, TN⟩
          · omega
          · omega
          · rw [HRES.out, givenL, HL.out]
          · rw [IL.out]; omega
      · skip
        have e1 : decide ((i : Int) < (len : Int)) = false := by simp; omega
        have e1' : decide (i < len) = false := by simp; omega
        have f4 : decide (0 < (i : Int)) = false := by simp; omega
        have f4' : decide (0 < i) = false := by simp; omega
        obtain ⟨w2, hw2⟩ : ∃ w2, w2 = w1 := ⟨_, rfl⟩
        have x2 : Ext w1 w2 := by rw [hw2]; exact Ext.refl _
        rw [← hw2]
        rw [← hw2] at hgw cv hf1
        clear hw2
        have X2 := Lib.hid x2
        clear x2
        have FW := (HF1.out.ext (X2.out.alloc (.cells #[.int .i64 a, .int .i64 n] 78)))
        have HFW := Lib.hid FW
        have LT : w2.heap.size < (w2.alloc (.cells #[.int .i64 a, .int .i64 n] 78)).heap.size := (Blk.new _ _ _).lt
        have BL : base ≤ w2.heap.size := by have := X1.out.below.size; have := X2.out.below.size; omega
        have APO := Lib.hid (fun hk => Nat.lt_irrefl _ (own_lt (HF1.out.ext X2.out).own (k := w2.heap.size) hk))
        have APG := Lib.hid HF1.out.apart
        clear FW
        go_wp2_with fail
        refine (insert (base := base) (L := L) (i := i) (x := a) (y := n) (by have := HFW.out.own; rw [HL.out] at this; rw [HL.out]; exact this) (by rw [HL.out]; exact hle) (by rw [HL.out]; omega) (Blk.new _ _ _) (by omega) APO.out).mono ?_
        rintro e w3 ⟨v', rfl, own', kp⟩
        have IL : Hid ((ins L i (a, n)).length = len + 1) := Lib.hid (by rw [ins_len _ _ _ (by rw [HL.out]; exact hle), HL.out])
        have OW' := Lib.hid own'
        have KP := Lib.hid kp
        have B3 := HFW.out.blk.keep kp APG.out
        obtain ⟨t1, t2, t3⟩ := B3.rules
        have HB3 := Lib.hid B3
        obtain ⟨V', cap', rfl, hc0, hc1⟩ := own_form own'
        rw [IL.out] at hc0 ⊢
        clear own' kp B3 cv hf1
        go_wp2_with fail
        all_goals go_step3
        all_goals
          have FN : Fre (w3.setCell ⟨g, 1, none⟩ (.slice V' (len + 1) cap')) g base (.slice V' (len + 1) cap') (ins L i (a, n)) N := by
            refine ⟨HB3.out.set 1 _, ?_, by rw [IL.out]; omega, ins_bd HBD.out h2 h1 (by omega)⟩
            have := own_keep OW'.out ((Keep.refl (· = g) w3).setCell (p := ⟨g, 1, none⟩) rfl (.slice V' (len + 1) cap')) (fun j hj e => ?_)
            · rw [IL.out] at this ⊢; exact this
            · subst e; exact own_apart OW'.out HB3.out hj
          have TN : TK w g base (w3.setCell ⟨g, 1, none⟩ (.slice V' (len + 1) cap')) :=
            (TK.refl w g base |>.ext (X1.out.trans (X2.out.alloc _))).step HFW.out.own ((KP.out.mono (fun j hj => .inr hj)).setCell (p := ⟨g, 1, none⟩) (.inl rfl) _)
          refine ‹∀ (a_1 : Act) (w_1 : World), Code.wp _ _ (Exit.jump 0 (GJ w g base N a n res) _) a_1 w_1 → _› _ _ ?_
          refine HBODY.out _ _ ⟨i - 1, min (i - 1 + 2) len, _, ins L i (a, n), Slt.mk _ _ _ _ _ _ _ ?_ ?_ _ rfl, FN, ?_, ?_, TN⟩
          · omega
          · omega
          · rw [HRES.out, givenL, HL.out]
          · rw [IL.out]; omega
end Go.Proofs.Ytjpalcejmloocaa.Free
