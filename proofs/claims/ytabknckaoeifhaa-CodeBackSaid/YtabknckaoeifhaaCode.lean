/-
  Contracts of package code and of the document's answer (chapter 13).
-/
import Derived.Test.YtabknckaoeifhaaRows
import Derived.Test.YtabknckaoeifhaaExt
import Derived.WalkKit
import Derived.Lib.Hide
import Derived.Laws.Tables
import Derived.Laws.Rows
import Derived.Great.Walk
namespace Go.Proofs.Ytabknckaoeifhaa.Code
open Go.RowKit Go.Proofs.Ytabknckaoeifhaa.Plain
set_option linter.unusedVariables false

def nms : List ByteArray := [⟨#[115, 101, 108, 102]⟩, ⟨#[116, 101, 109, 112]⟩, ⟨#[108, 105, 116]⟩, ⟨#[102, 105, 101, 108, 100]⟩, ⟨#[115, 101, 116]⟩, ⟨#[115, 101, 116, 102, 105, 101, 108, 100]⟩, ⟨#[112, 111, 112]⟩, ⟨#[100, 117, 112]⟩, ⟨#[105, 110, 116]⟩, ⟨#[99, 111, 110, 115, 116]⟩, ⟨#[115, 101, 110, 100]⟩, ⟨#[115, 117, 112, 101, 114]⟩, ⟨#[106, 117, 109, 112]⟩, ⟨#[105, 102, 116, 114, 117, 101]⟩, ⟨#[105, 102, 102, 97, 108, 115, 101]⟩, ⟨#[114, 101, 116]⟩, ⟨#[117, 112]⟩, ⟨#[98, 108, 111, 99, 107]⟩, ⟨#[111, 117, 116, 101, 114]⟩, ⟨#[115, 101, 116, 111, 117, 116, 101, 114]⟩, ⟨#[97, 114, 114, 97, 121]⟩, ⟨#[102, 114, 97, 109, 101]⟩]
def nameB (n : Int) : ByteArray := if 1 ≤ n ∧ n ≤ 22 then nms.getD (n - 1).toNat ⟨#[]⟩ else ⟨#[]⟩
theorem lt22 {k : Nat} (h : k < 22) : k = 0 ∨ k = 1 ∨ k = 2 ∨ k = 3 ∨ k = 4 ∨ k = 5 ∨ k = 6 ∨ k = 7 ∨ k = 8 ∨ k = 9 ∨ k = 10 ∨ k = 11 ∨ k = 12 ∨ k = 13 ∨ k = 14 ∨ k = 15 ∨ k = 16 ∨ k = 17 ∨ k = 18 ∨ k = 19 ∨ k = 20 ∨ k = 21 := by omega
theorem nameB_in (k : Nat) (h : k < 22) : nameB ((k : Int) + 1) = nms.getD k ⟨#[]⟩ := by
  unfold nameB; rw [if_pos (by omega), show ((k : Int) + 1 - 1).toNat = k from by omega]
theorem nameB_out (n : Int) (h : n < 1 ∨ 22 < n) : nameB n = ⟨#[]⟩ := by unfold nameB; rw [if_neg (by omega)]
theorem ret_str {a b : Value} (h : a = b) : Ending.returned a = .returned b := by rw [h]
def nmsV : Array Value := (nms.map Value.string).toArray
def zeros22 : Array Value := Array.replicate 22 (.string ⟨#[]⟩)
theorem zero22 (w : World) : Sem.run Try.prog (zeroValue 63) w = .ok (.agg zeros22) w := by kernel_rfl
theorem builtv (s0 s1 s2 s3 s4 s5 s6 s7 s8 s9 s10 s11 s12 s13 s14 s15 s16 s17 s18 s19 s20 s21 : ByteArray) : Try.prog.built 63 [(0, .string s0), (1, .string s1), (2, .string s2), (3, .string s3), (4, .string s4), (5, .string s5), (6, .string s6), (7, .string s7), (8, .string s8), (9, .string s9), (10, .string s10), (11, .string s11), (12, .string s12), (13, .string s13), (14, .string s14), (15, .string s15), (16, .string s16), (17, .string s17), (18, .string s18), (19, .string s19), (20, .string s20), (21, .string s21)] = some ([s0, s1, s2, s3, s4, s5, s6, s7, s8, s9, s10, s11, s12, s13, s14, s15, s16, s17, s18, s19, s20, s21].map Value.string).toArray := by kernel_rfl
theorem one_nms (l : List ByteArray) : (l.map Value.string).toArray.all (·.oneCell') = true := by simp [Value.oneCell']
theorem size_nmsV : nmsV.size = 22 := by rfl
theorem wpList_built {P : Program} {ops : Array Oper} {rest : List Oper} {o : Oper} {a : Act} {w : World} {Q : Exit → Act → World → Prop} (hg : o.guard = none) (t : TypeId) (parts : Array (Nat × Operand)) (ho : o.op = .build t parts) (cells : Array Value)
    (hc : P.built t (parts.map fun (i, x) => (i, a.eval x)).toList = some cells) (h : wpList P ops Q rest (a.put o.dst (.agg cells)) w) : wpList P ops Q (o :: rest) a w :=
  wpList_build hg t parts ho (by rw [hc]; rfl) (by rw [hc]; exact h)
theorem keep_setRow (w : World) (g : Nat) (cs : Array Value) : Keep (· = g) w (w.setRow g cs) :=
  ⟨rfl, rfl, rfl, by simp [World.setRow], fun k hk hn => setRow_other w g k cs hn⟩
theorem names (w : World) : Calls Try.prog 41 #[] w fun e w' => e = .returned (.agg nmsV) ∧ Ext w w' := by
  have hz := zero22
  go_enter Try.func41, Try.ntmps41
  apply wp_seq_k; intro K0 hK0
  replace hK0 := Lib.hid hK0
  go_wp2
  refine hK0.out _ _ ?_
  apply wp_seq_k; intro K1 hK1
  apply wp_region_lit
  refine wpList_built rfl 63 _ rfl nmsV (by simp only [List.map_toArray, List.map_cons, List.map_nil]; exact builtv _ _ _ _ _ _ _ _ _ _ _ _ _ _ _ _ _ _ _ _ _ _) ?_
  refine wpList_store_row rfl 63 _ _ rfl w.heap.size nmsV rfl rfl 63 zeros22 (Blk.new w _ _) (by kernel_rfl) rfl (one_nms _) ?_
  apply wpList_nil
  refine hK1 _ _ ?_
  refine wp_ret (bodyPost_ret (v := .agg nmsV) (results_cell_row rfl _ _ w.heap.size 63 nmsV (0, 0) _ rfl (setRow_heap _ _ _ _ _ _ (Blk.new w _ _)) Try.underlying63 rfl (by kernel_rfl)) rfl ⟨rfl, ?_⟩)
  exact (Keep.trans (Keep.of_ext ((Ext.refl w).alloc _) _) (keep_setRow _ _ _)).toExt (fun k hk h => by omega)
theorem nmsV_at (k : Nat) (h : k < 22) : nmsV[k]? = some (.string (nms.getD k ⟨#[]⟩)) := by
  rcases lt22 h with rfl | rfl | rfl | rfl | rfl | rfl | rfl | rfl | rfl | rfl | rfl | rfl | rfl | rfl | rfl | rfl | rfl | rfl | rfl | rfl | rfl | rfl
  all_goals rfl
theorem idxv (s0 s1 s2 s3 s4 s5 s6 s7 s8 s9 s10 s11 s12 s13 s14 s15 s16 s17 s18 s19 s20 s21 : ByteArray) (k : Nat) (h : k < 22) (w : World) : Sem.run Try.prog (Instr.index 63 (.agg ([s0, s1, s2, s3, s4, s5, s6, s7, s8, s9, s10, s11, s12, s13, s14, s15, s16, s17, s18, s19, s20, s21].map Value.string).toArray) (.int .i64 (k : Int))) w = .ok (.string ([s0, s1, s2, s3, s4, s5, s6, s7, s8, s9, s10, s11, s12, s13, s14, s15, s16, s17, s18, s19, s20, s21].getD k ⟨#[]⟩)) w := by
  rcases lt22 h with rfl | rfl | rfl | rfl | rfl | rfl | rfl | rfl | rfl | rfl | rfl | rfl | rfl | rfl | rfl | rfl | rfl | rfl | rfl | rfl | rfl | rfl
  all_goals kernel_rfl
theorem idx (k : Nat) (h : k < 22) (w : World) : Sem.run Try.prog (Instr.index 63 (.agg nmsV) (.int .i64 (k : Int))) w = .ok (.string (nms.getD k ⟨#[]⟩)) w := by
  unfold nmsV nms
  exact idxv _ _ _ _ _ _ _ _ _ _ _ _ _ _ _ _ _ _ _ _ _ _ k h w
set_option maxRecDepth 100000 in
set_option maxHeartbeats 2000000 in
theorem name_in (k : Nat) (hk : k < 22) (w : World) : Calls Try.prog 15 #[.int .i64 ((k : Int) + 1)] w fun e w' => e = .returned (.string (nms.getD k ⟨#[]⟩)) ∧ Ext w w' := by
  have h1 : ¬ (k : Int) + 1 < 1 := by omega
  have d1 : decide (22 < (k : Int) + 1) = false := by simp; omega
  have hix := idx k hk
  generalize nms.getD k ⟨#[]⟩ = s at hix ⊢
  go_enter Try.func15, Try.ntmps15
  go_wp2_with (go_at_call 41; refine (names _).mono ?_; rintro e w1 ⟨rfl, x1⟩)
  go_ret
  exact ⟨rfl, x1⟩
theorem name_lo (n : Int) (h : n < 1) (w : World) : Calls Try.prog 15 #[.int .i64 n] w fun e w' => e = .returned (.string ⟨#[]⟩) ∧ Ext w w' := by
  go_enter Try.func15, Try.ntmps15
  go_wp2
  go_ret
  exact ⟨rfl, Ext.refl _⟩
theorem name_hi (n : Int) (h : 22 < n) (w : World) : Calls Try.prog 15 #[.int .i64 n] w fun e w' => e = .returned (.string ⟨#[]⟩) ∧ Ext w w' := by
  have h1 : decide (n < 1) = false := by simp; omega
  have h2 : decide (22 < n) = true := by simpa using h
  go_enter Try.func15, Try.ntmps15
  go_wp2
  go_ret
  exact ⟨rfl, Ext.refl _⟩
theorem name (n : Int) (w : World) : Calls Try.prog 15 #[.int .i64 n] w fun e w' => e = .returned (.string (nameB n)) ∧ Ext w w' := by
  by_cases h1 : n < 1
  · rw [nameB_out n (.inl h1)]; exact name_lo n h1 w
  by_cases h2 : 22 < n
  · rw [nameB_out n (.inr h2)]; exact name_hi n h2 w
  obtain ⟨k, rfl⟩ : ∃ k : Nat, n = (k : Int) + 1 := ⟨(n - 1).toNat, by omega⟩
  rw [nameB_in k (by omega)]; exact name_in k (by omega) w
def zeros23 : Array Value := Array.replicate 23 (.string ⟨#[]⟩)
def nms23 : Array Value := ((⟨#[]⟩ :: nms).map Value.string).toArray
theorem builtw (s s0 s1 s2 s3 s4 s5 s6 s7 s8 s9 s10 s11 s12 s13 s14 s15 s16 s17 s18 s19 s20 s21 : ByteArray) : Try.prog.built 65 [(0, .string s), (1, .string s0), (2, .string s1), (3, .string s2), (4, .string s3), (5, .string s4), (6, .string s5), (7, .string s6), (8, .string s7), (9, .string s8), (10, .string s9), (11, .string s10), (12, .string s11), (13, .string s12), (14, .string s13), (15, .string s14), (16, .string s15), (17, .string s16), (18, .string s17), (19, .string s18), (20, .string s19), (21, .string s20), (22, .string s21)] = some ([s, s0, s1, s2, s3, s4, s5, s6, s7, s8, s9, s10, s11, s12, s13, s14, s15, s16, s17, s18, s19, s20, s21].map Value.string).toArray := by kernel_rfl
theorem nms23_at (k : Nat) (h : k < 22) : nms23[k + 1]? = some (.string (nms.getD k ⟨#[]⟩)) := by
  have : nms.length = 22 := rfl
  simp [nms23, List.getD, h, this]
theorem rname_in (k : Nat) (hk : k < 22) (w : World) : Calls Try.prog 16 #[.int .i64 ((k : Int) + 1)] w fun e w' => e = .returned (.string (nms.getD k ⟨#[]⟩)) ∧ Ext w w' := by
  have h1 : ¬ (k : Int) + 1 < 1 := by omega
  have d1 : decide (22 < (k : Int) + 1) = false := by simp; omega
  go_enter Try.func16, Try.ntmps16
  apply wp_seq_k; intro K0 hK0
  replace hK0 := Lib.hid hK0
  go_wp2
  refine hK0.out _ _ ?_
  clear hK0
  apply wp_seq_k; intro K1 hK1
  apply wp_region_lit
  refine wpList_built rfl 65 _ rfl nms23 (by simp only [List.map_toArray, List.map_cons, List.map_nil]; exact builtw _ _ _ _ _ _ _ _ _ _ _ _ _ _ _ _ _ _ _ _ _ _ _) ?_
  refine Go.Great.wpList_allocTo rfl (some 3) rfl (.pointer (some ⟨w.heap.size, 0, none⟩)) (.cells zeros23 65) (by kernel_rfl) ?_
  refine wpList_store_row rfl 65 _ _ rfl w.heap.size nms23 rfl rfl 65 zeros23 (Blk.new w _ _) (by kernel_rfl) rfl (one_nms _) ?_
  apply wpList_nil
  refine hK1 _ _ ?_
  clear hK1
  have hb : Blk ((w.alloc (.cells zeros23 65)).setRow w.heap.size nms23) w.heap.size 65 nms23 := setRow_heap _ _ _ _ _ _ (Blk.new w _ _)
  have hx : Ext w ((w.alloc (.cells zeros23 65)).setRow w.heap.size nms23) := (Keep.trans (Keep.of_ext ((Ext.refl w).alloc _) _) (keep_setRow _ _ _)).toExt (fun k hk h => by omega)
  generalize (w.alloc (.cells zeros23 65)).setRow w.heap.size nms23 = W at hb hx ⊢
  have c := (hb.cell (k + 1)).trans (nms23_at k hk)
  generalize nms.getD k ⟨#[]⟩ = s at c ⊢
  go_wp2
  go_ret
  exact ⟨rfl, hx⟩
theorem rname_lo (n : Int) (h : n < 1) (w : World) : Calls Try.prog 16 #[.int .i64 n] w fun e w' => e = .returned (.string ⟨#[]⟩) ∧ Ext w w' := by
  have d1 : decide (n < 1) = true := by simpa using h
  go_enter Try.func16, Try.ntmps16
  apply wp_seq_k; intro K0 hK0
  replace hK0 := Lib.hid hK0
  go_wp2
  refine hK0.out _ _ ?_
  clear hK0
  apply wp_seq_k; intro K1 hK1
  apply wp_region_lit
  refine wpList_built rfl 65 _ rfl nms23 (by simp only [List.map_toArray, List.map_cons, List.map_nil]; exact builtw _ _ _ _ _ _ _ _ _ _ _ _ _ _ _ _ _ _ _ _ _ _ _) ?_
  refine Go.Great.wpList_allocTo rfl (some 3) rfl (.pointer (some ⟨w.heap.size, 0, none⟩)) (.cells zeros23 65) (by kernel_rfl) ?_
  refine wpList_store_row rfl 65 _ _ rfl w.heap.size nms23 rfl rfl 65 zeros23 (Blk.new w _ _) (by kernel_rfl) rfl (one_nms _) ?_
  apply wpList_nil
  refine hK1 _ _ ?_
  clear hK1
  have hb : Blk ((w.alloc (.cells zeros23 65)).setRow w.heap.size nms23) w.heap.size 65 nms23 := setRow_heap _ _ _ _ _ _ (Blk.new w _ _)
  have hx : Ext w ((w.alloc (.cells zeros23 65)).setRow w.heap.size nms23) := (Keep.trans (Keep.of_ext ((Ext.refl w).alloc _) _) (keep_setRow _ _ _)).toExt (fun k hk h => by omega)
  generalize (w.alloc (.cells zeros23 65)).setRow w.heap.size nms23 = W at hb hx ⊢
  go_wp2
  go_ret
  exact ⟨rfl, hx⟩
theorem rname_hi (n : Int) (h : 22 < n) (w : World) : Calls Try.prog 16 #[.int .i64 n] w fun e w' => e = .returned (.string ⟨#[]⟩) ∧ Ext w w' := by
  have d0 : decide (n < 1) = false := by simp; omega
  have d1 : decide (22 < n) = true := by simpa using h
  go_enter Try.func16, Try.ntmps16
  apply wp_seq_k; intro K0 hK0
  replace hK0 := Lib.hid hK0
  go_wp2
  refine hK0.out _ _ ?_
  clear hK0
  apply wp_seq_k; intro K1 hK1
  apply wp_region_lit
  refine wpList_built rfl 65 _ rfl nms23 (by simp only [List.map_toArray, List.map_cons, List.map_nil]; exact builtw _ _ _ _ _ _ _ _ _ _ _ _ _ _ _ _ _ _ _ _ _ _ _) ?_
  refine Go.Great.wpList_allocTo rfl (some 3) rfl (.pointer (some ⟨w.heap.size, 0, none⟩)) (.cells zeros23 65) (by kernel_rfl) ?_
  refine wpList_store_row rfl 65 _ _ rfl w.heap.size nms23 rfl rfl 65 zeros23 (Blk.new w _ _) (by kernel_rfl) rfl (one_nms _) ?_
  apply wpList_nil
  refine hK1 _ _ ?_
  clear hK1
  have hb : Blk ((w.alloc (.cells zeros23 65)).setRow w.heap.size nms23) w.heap.size 65 nms23 := setRow_heap _ _ _ _ _ _ (Blk.new w _ _)
  have hx : Ext w ((w.alloc (.cells zeros23 65)).setRow w.heap.size nms23) := (Keep.trans (Keep.of_ext ((Ext.refl w).alloc _) _) (keep_setRow _ _ _)).toExt (fun k hk h => by omega)
  generalize (w.alloc (.cells zeros23 65)).setRow w.heap.size nms23 = W at hb hx ⊢
  go_wp2
  go_ret
  exact ⟨rfl, hx⟩
theorem rname (n : Int) (w : World) : Calls Try.prog 16 #[.int .i64 n] w fun e w' => e = .returned (.string (nameB n)) ∧ Ext w w' := by
  by_cases h1 : n < 1
  · rw [nameB_out n (.inl h1)]; exact rname_lo n h1 w
  by_cases h2 : 22 < n
  · rw [nameB_out n (.inr h2)]; exact rname_hi n h2 w
  obtain ⟨k, rfl⟩ : ∃ k : Nat, n = (k : Int) + 1 := ⟨(n - 1).toNat, by omega⟩
  rw [nameB_in k (by omega)]; exact rname_in k (by omega) w

/-! ### a name's place -/
def sameB (a b : ByteArray) : Bool := a.toList == b.toList
theorem sameB_iff {a b : ByteArray} : sameB a b = true ↔ a = b := by
  unfold sameB
  rw [beq_iff_eq, ByteArray.toList_eq, ByteArray.toList_eq]
  exact ⟨WideShapes.bytes_inj, fun h => by rw [h]⟩
def findI (l : List ByteArray) (s : ByteArray) : Int := match l.findIdx? (sameB s) with | some k => (k : Int) | none => -1
theorem find_at {l : List ByteArray} {s x : ByteArray} {k : Nat} (h : ∀ j y, j < k → l[j]? = some y → sameB s y = false) (hk : l[k]? = some x) (hx : sameB s x = true) : findI l s = k := by
  obtain ⟨hlt, he⟩ := List.getElem?_eq_some_iff.1 hk
  have : l.findIdx? (sameB s) = some k := by
    rw [List.findIdx?_eq_some_iff_getElem]
    exact ⟨hlt, by rw [he]; exact hx, fun j hj => by simpa using h j _ hj (List.getElem?_eq_getElem (by omega))⟩
  unfold findI
  rw [this]
theorem find_no {l : List ByteArray} {s : ByteArray} (h : ∀ j y, j < l.length → l[j]? = some y → sameB s y = false) : findI l s = -1 := by
  have : l.findIdx? (sameB s) = none := by
    rw [List.findIdx?_eq_none_iff]
    intro x hx
    obtain ⟨j, hj⟩ := List.mem_iff_getElem?.1 hx
    exact h j x (List.getElem?_eq_some_iff.1 hj).1 hj
  unfold findI
  rw [this]
theorem find_bd (l : List ByteArray) (s : ByteArray) : -1 ≤ findI l s ∧ findI l s < l.length ∨ findI l s = -1 := by
  unfold findI
  split
  · rename_i k h; have := (List.findIdx?_eq_some_iff_getElem.1 h).1; omega
  · omega
set_option maxHeartbeats 1000000 in
theorem sindex (w : World) (g : Nat) (l : List ByteArray) (cap : Nat) (s : ByteArray) (hl : l.length ≤ 1000) (hc : ∀ (k : Nat) (x : ByteArray), l[k]? = some x → w.cell? ⟨g, k, none⟩ = some (.string x)) :
    Calls Try.prog 42 #[.slice (some ⟨g, 0, none⟩) l.length cap, .string s] w fun e w' => e = .returned (.int .i64 (findI l s)) ∧ w = w' := by
  have HC := Lib.hid hc
  clear hc
  go_enter Try.func42, Try.ntmps42
  go_wp2
  go_loop [8] (fun i => ∃ k : Nat, k ≤ l.length ∧ i = .int .i64 k ∧ Hid (∀ j y, j < k → l[j]? = some y → sameB s y = false)) (fun i => l.length - (intOf i).toNat)
  case atStart => exact ⟨0, Nat.zero_le _, rfl, Lib.hid (fun j y hj => absurd hj (Nat.not_lt_zero j))⟩
  case round =>
    obtain ⟨k, hk, rfl, hno⟩ := hrel
    by_cases hlt : k < l.length
    · have hkk : l[k]? = some l[k] := List.getElem?_eq_getElem hlt
      have hcell := HC.out k _ hkk
      have HK := Lib.hid hkk
      clear hkk
      generalize l[k] = x at hcell HK
      cases hx : sameB s x with
      | true =>
        have FN := Lib.hid (find_at hno.out HK.out hx)
        have b1 : (s.toList == x.toList) = true := hx
        clear hx
        go_wp2
        go_ret
        exact ⟨ret_int FN.out.symm, rfl⟩
      | false =>
        have b1 : (s.toList == x.toList) = false := hx
        have hx2 := Lib.hid hx
        clear hx
        go_wp2
        go_round
        case rel => exact ⟨k + 1, by omega, by go_num, Lib.hid (fun j y hj hy => by
          by_cases e : j = k
          · subst e; rw [HK.out] at hy; injection hy with hy; rw [← hy]; exact hx2.out
          · exact hno.out j y (by omega) hy)⟩
        case measure => simp [intOf]; omega
    · have FN := Lib.hid (find_no (fun j y hj => hno.out j y (by omega)))
      go_wp2
      go_ret
      exact ⟨ret_int FN.out.symm, rfl⟩
def opI (s : ByteArray) : Int := findI nms s + 1
theorem nms_len : nms.length = 22 := rfl
theorem sindex22 (w : World) (g cap : Nat) (s : ByteArray) (hb : Blk w g 63 nmsV) :
    Calls Try.prog 42 #[.slice (some ⟨g, 0, none⟩) 22 cap, .string s] w fun e w' => e = .returned (.int .i64 (findI nms s)) ∧ w = w' :=
  sindex w g nms cap s (by rw [nms_len]; omega) (fun k x hk => by rw [hb.cell]; unfold nmsV; simp [hk])
theorem cop (w : World) (s : ByteArray) : Calls Try.prog 17 #[.string s] w fun e w' => e = .returned (.int .i64 (opI s)) ∧ Ext w w' := by
  have hfb := find_bd nms s
  rw [nms_len] at hfb
  have hz := zero22
  go_enter Try.func17, Try.ntmps17
  go_wp2_with fail
  refine (names _).mono ?_
  rintro e w1 ⟨rfl, x1⟩
  go_wp2_with (refine wpList_store_row rfl 63 _ _ rfl w1.heap.size nmsV rfl rfl 63 zeros22 (Blk.new w1 _ _) (by kernel_rfl) rfl (one_nms _) ?_)
  have hb : Blk ((w1.alloc (.cells zeros22 63)).setRow w1.heap.size nmsV) w1.heap.size 63 nmsV := setRow_heap _ _ _ _ _ _ (Blk.new w1 _ _)
  have hx : Ext w1 ((w1.alloc (.cells zeros22 63)).setRow w1.heap.size nmsV) := (Keep.trans (Keep.of_ext ((Ext.refl w1).alloc _) _) (keep_setRow _ _ _)).toExt (fun k hk h => by omega)
  generalize (w1.alloc (.cells zeros22 63)).setRow w1.heap.size nmsV = W at hb hx ⊢
  refine (sindex22 W w1.heap.size 22 s hb).mono ?_
  rintro e w2 ⟨rfl, rfl⟩
  have fb1 : -1 ≤ findI nms s := by omega
  have fb2 : findI nms s ≤ 22 := by omega
  clear hfb hb
  go_wp2
  go_ret
  exact ⟨rfl, x1.trans hx⟩
/-! ### the document's Op -/
theorem nameB_one (k : Nat) (hk : k < 22) (s : ByteArray) : (nameB ((k : Int) + 1) = s) ↔ nms[k]? = some s := by
  rw [nameB_in k hk, List.getD_eq_getElem?_getD]
  have : nms[k]? = some nms[k] := List.getElem?_eq_getElem (by rw [nms_len]; exact hk)
  rw [this]; simp
set_option maxHeartbeats 1000000 in
theorem rop (w : World) (s : ByteArray) : Calls Try.prog 27 #[.string s] w fun e w' => e = .returned (.int .i64 (opI s)) ∧ Ext w w' := by
  go_enter Try.func27, Try.ntmps27
  go_wp2
  go_loopw [3] (fun i wr => ∃ k : Nat, k ≤ 22 ∧ i = .int .i64 ((k : Int) + 1) ∧ Hid (∀ j y, j < k → nms[j]? = some y → sameB s y = false) ∧ Ext w wr) (fun i _ => 24 - (intOf i).toNat)
  case atStart => exact ⟨0, Nat.zero_le _, rfl, Lib.hid (fun j y hj => absurd hj (Nat.not_lt_zero j)), Ext.refl _⟩
  case round =>
    obtain ⟨k, hk, rfl, hno, hx⟩ := hrel
    by_cases hlt : k < 22
    · have hkk : nms[k]? = some (nameB ((k : Int) + 1)) := (nameB_one k hlt _).1 rfl
      have HK := Lib.hid hkk
      clear hkk
      have hn := Lib.hid (rname ((k : Int) + 1))
      generalize nameB ((k : Int) + 1) = x at HK hn
      go_wp2_with fail
      refine (hn.out _).mono ?_
      rintro e w1 ⟨rfl, x1⟩
      cases hxs : sameB s x with
      | true =>
        have FN := Lib.hid (find_at hno.out HK.out hxs)
        have b1 : (x.toList == s.toList) = true := by unfold sameB at hxs; simpa using (beq_iff_eq.1 hxs).symm
        clear hxs
        go_wp2
        go_ret
        exact ⟨ret_int (by unfold opI; rw [FN.out]), hx.trans x1⟩
      | false =>
        have b1 : (x.toList == s.toList) = false := by unfold sameB at hxs; rw [beq_eq_false_iff_ne] at hxs ⊢; exact fun h => hxs h.symm
        have hx2 := Lib.hid hxs
        clear hxs
        go_wp2
        go_roundw
        case rel => exact ⟨k + 1, by omega, by go_num, Lib.hid (fun j y hj hy => by
          by_cases e : j = k
          · subst e; rw [HK.out] at hy; injection hy with hy; rw [← hy]; exact hx2.out
          · exact hno.out j y (by omega) hy), hx.trans x1⟩
        case measure => simp [intOf]; omega
    · have FN := Lib.hid (find_no (l := nms) (fun j y hj => hno.out j y (by rw [nms_len] at hj; omega)))
      go_wp2
      go_ret
      exact ⟨ret_int (by unfold opI; rw [FN.out]; rfl), hx⟩
end Go.Proofs.Ytabknckaoeifhaa.Code
