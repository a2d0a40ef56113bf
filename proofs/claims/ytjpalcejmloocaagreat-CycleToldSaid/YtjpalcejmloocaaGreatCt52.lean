/-
  CodeGet, as one text (a claim has at most 60 files).
-/
import Derived.Test.YtjpalcejmloocaaGreatCt04
import Derived.RegionTactic
import Derived.ChangeAlike
import Derived.WalkSpells
import Derived.Lib.IndexBytes
import Derived.Laws.BytesArg
namespace Go.Proofs.YtjpalcejmloocaaGreat.World
open Go.RowKit Go.Proofs.YtjpalcejmloocaaGreat.Plain
set_option linter.unusedVariables false
attribute [local go_sem ↓] Go.wp_at_zero Go.wp_at_succ

def byteN (B : ByteArray) (l : Nat) : Int := ((B.data.toList.getD l 0).toNat : Int)
theorem byteN_in (B : ByteArray) (l : Nat) : 0 ≤ byteN B l ∧ byteN B l ≤ 255 := by
  unfold byteN; have := (B.data.toList.getD l 0).toNat_lt; omega
theorem w64b (b : UInt8) : wrap64 (b.toNat : Int) = (b.toNat : Int) := by have := b.toNat_lt; exact IntWalk.wrap64_in _ ⟨by omega, by omega⟩
theorem ext_byte {s b : ByteArray} {n : Nat} (hb : b = s.extract n s.size) (j : Nat) (hj : j < b.size) : byteN s (n + j) = (b[j].toNat : Int) := by
  subst hb
  unfold byteN
  have hn : n + j < s.size := by simp at hj; omega
  have e1 := Lib.extract_to_end s n
  have e2 : (s.extract n s.size)[j] = (s.extract n s.size).data.toList[j]'(by simpa using hj) := rfl
  rw [e2]
  simp only [e1, List.getElem_drop]
  rw [List.getD_eq_getElem?_getD, List.getElem?_eq_getElem (by simpa using hn)]
  rfl
theorem clen (w : World) (s : ByteArray) (h : s.size ≤ 1000) : Calls Tryz.prog 241 #[.string s] w fun e w' => e = .returned (.int .i64 ((s.size / 3 : Nat) : Int)) ∧ w = w' := by
  go_enter Tryz.func241, Tryz.ntmps241
  go_wp2
  go_ret
  exact ⟨ret_int (by omega), rfl⟩
theorem cget_lo (w : World) (s : ByteArray) (h : s.size ≤ 1000) (pc : Int) (hp : pc < 0) :
    Calls Tryz.prog 217 #[.string s, .int .i64 pc] w fun e w' => e = .returned (.tuple #[.agg #[.int .i64 0, .int .i64 0, .int .i64 0], .bool false]) ∧ Ext w w' := by
  have d1 : decide (pc < 0) = true := by simpa using hp
  go_enter Tryz.func217, Tryz.ntmps217
  go_wp2
  exact bodyPost_ret (v := .tuple #[.agg #[.int .i64 0, .int .i64 0, .int .i64 0], .bool false]) (by simp [results, Tryz.results217, go_sem]) rfl ⟨rfl, (Ext.refl _).alloc _⟩
theorem cget_hi (w : World) (s : ByteArray) (h : s.size ≤ 1000) (pc : Int) (hp : ((s.size / 3 : Nat) : Int) ≤ pc) :
    Calls Tryz.prog 217 #[.string s, .int .i64 pc] w fun e w' => e = .returned (.tuple #[.agg #[.int .i64 0, .int .i64 0, .int .i64 0], .bool false]) ∧ Ext w w' := by
  have d1 : decide (pc < 0) = false := by simp; omega
  have d2 : decide (((s.size / 3 : Nat) : Int) ≤ pc) = true := by simpa using hp
  go_enter Tryz.func217, Tryz.ntmps217
  go_wp2_with (go_at_call 241; refine (clen _ _ h).mono ?_; rintro e w' ⟨rfl, rfl⟩)
  exact bodyPost_ret (v := .tuple #[.agg #[.int .i64 0, .int .i64 0, .int .i64 0], .bool false]) (by simp [results, Tryz.results217, go_sem]) rfl ⟨rfl, (Ext.refl _).alloc _⟩
theorem cget_in (w : World) (s : ByteArray) (h : s.size ≤ 1000) (k : Nat) (hp : 3 * k + 3 ≤ s.size) :
    Calls Tryz.prog 217 #[.string s, .int .i64 k] w fun e w' => e = .returned (.tuple #[.agg #[.int .i64 (byteN s (3 * k)), .int .i64 (byteN s (3 * k + 1)), .int .i64 (byteN s (3 * k + 2))], .bool true]) ∧ Ext w w' := by
  have d1 : decide ((k : Int) < 0) = false := by simp
  have d2 : decide (((s.size / 3 : Nat) : Int) ≤ k) = false := by simp; omega
  have d3 : decide ((s.size / 3 : Nat) ≤ k) = false := by simp; omega
  go_enter Tryz.func217, Tryz.ntmps217
  go_wp2_with (go_at_call 241; refine (clen _ _ h).mono ?_; rintro e w' ⟨rfl, rfl⟩)
  obtain ⟨b, hb⟩ : ∃ b, b = s.extract (3 * k) s.size := ⟨_, rfl⟩
  have hsz : b.size = s.size - 3 * k := by rw [hb]; simp
  have b0 : 0 < b.size := by omega
  have b1 : 1 < b.size := by omega
  have b2 : 2 < b.size := by omega
  have c1 : (1 : Int) < (b.size : Int) := by omega
  have c2 : (2 : Int) < (b.size : Int) := by omega
  have HB := Lib.hid (ext_byte hb)
  clear hsz h hp d1 d2 d3
  rw [← hb]
  clear hb
  go_region
  go_wp2
  refine bodyPost_ret (v := .tuple #[.agg #[.int .i64 (b[0].toNat : Int), .int .i64 (b[1].toNat : Int), .int .i64 (b[2].toNat : Int)], .bool true]) (by simp [results, Tryz.results217, go_sem, w64b]) rfl ⟨?_, ?_⟩
  · rw [← HB.out 0 b0, ← HB.out 1 b1, ← HB.out 2 b2]; rfl
  · exact ((Ext.refl _).alloc _).drew
/-! ### bytes by threes -/
def ins3 (v : Int) : List Int := [v % 256, v / 256 % 256, v / 65536 % 256]
def putL (z : Nat → Int) : Nat → List Int
  | 0 => []
  | k + 1 => putL z k ++ ins3 (z k)
theorem putL_len (z : Nat → Int) (k : Nat) : (putL z k).length = 3 * k := by
  induction k with
  | zero => rfl
  | succ k ih => simp [putL, ins3, ih]; omega
def putS (z : Nat → Int) (n : Nat) : ByteArray := strOfNums (putL z n)
theorem putS_size (z : Nat → Int) (n : Nat) : (putS z n).size = 3 * n := by unfold putS; rw [strOfNums_size, putL_len]
theorem putS_succ (z : Nat → Int) (n : Nat) : putS z (n + 1) = putS z n ++ strOfNums (ins3 (z n)) := by
  refine ByteArray.ext (Array.toList_inj.1 ?_)
  rw [ByteArray.data_append, Array.toList_append]
  unfold putS
  rw [strOfNums_data, strOfNums_data, strOfNums_data, ← List.map_append]; rfl
theorem putL_at (z : Nat → Int) (n i j : Nat) (hi : i < n) (hj : j < 3) : (putL z n)[3 * i + j]? = (ins3 (z i))[j]? := by
  induction n with
  | zero => omega
  | succ n ih =>
    rw [putL]
    by_cases e : i = n
    · subst e
      rw [List.getElem?_append_right (by rw [putL_len]; omega), putL_len]
      congr 1; omega
    · rw [List.getElem?_append_left (by rw [putL_len]; omega)]
      exact ih (by omega)
theorem putS_byte (z : Nat → Int) (n i j : Nat) (hi : i < n) (hj : j < 3) : byteN (putS z n) (3 * i + j) = (ins3 (z i)).getD j 0 := by
  unfold byteN putS
  rw [strOfNums_data, List.getD_eq_getElem?_getD, List.getElem?_map, putL_at z n i j hi hj, List.getD_eq_getElem?_getD]
  have h : ∀ v : Int, (UInt8.ofNat (v % 256).toNat).toNat = (v % 256).toNat := fun v => by rw [UInt8.toNat_ofNat']; omega
  unfold ins3
  rcases j with _ | _ | _ | j
  · simp only [List.getElem?_cons_zero, Option.map_some, Option.getD_some, h]; omega
  · simp only [List.getElem?_cons_zero, List.getElem?_cons_succ, Option.map_some, Option.getD_some, h]; omega
  · simp only [List.getElem?_cons_zero, List.getElem?_cons_succ, Option.map_some, Option.getD_some, h]; omega
  · omega
theorem putS_0 (z : Nat → Int) (n i : Nat) (hi : i < n) : byteN (putS z n) (3 * i) = z i % 256 := putS_byte z n i 0 hi (by omega)
theorem putS_1 (z : Nat → Int) (n i : Nat) (hi : i < n) : byteN (putS z n) (3 * i + 1) = z i / 256 % 256 := putS_byte z n i 1 hi (by omega)
theorem putS_2 (z : Nat → Int) (n i : Nat) (hi : i < n) : byteN (putS z n) (3 * i + 2) = z i / 65536 % 256 := putS_byte z n i 2 hi (by omega)
end Go.Proofs.YtjpalcejmloocaaGreat.World
