/-
  FrameNext, plain: a world with a code.
-/
import Derived.Test.YtnhijjcplnomgaaGreatNext
import Derived.Test.YtnhijjcplnomgaaGreatAwake14
namespace Go.Proofs.YtnhijjcplnomgaaGreat.World
open Go.RowKit Go.Proofs.YtnhijjcplnomgaaGreat.Plain
set_option linter.unusedVariables false
def textW (B : ByteArray) : PW := firstW.add 8 3 [] B
def methW (B : ByteArray) : PW := (textW B).add 11 1 [num 0, num 0, num 0, objV 23] ByteArray.empty
def codeW (B : ByteArray) : PW := (methW B).start 24 0 (num 0) 5
theorem textW_len (B : ByteArray) : (textW B).L.length = 24 := by unfold textW; rw [len_add]; rfl
theorem methW_len (B : ByteArray) : (methW B).L.length = 25 := by unfold methW; rw [len_add, textW_len]
theorem codeW_len (B : ByteArray) : (codeW B).L.length = 27 := by unfold codeW PW.start; rw [len_add, len_add, methW_len]
theorem codeW_first (B : ByteArray) (i : Nat) (hi : i < 23) : tAt (codeW B).L i = firstT i := by
  have e : firstW.L.length = 23 := rfl
  unfold codeW PW.start
  rw [tAt_add _ _ _ _ _ _ (by rw [len_add, methW_len]; omega), tAt_add _ _ _ _ _ _ (by rw [methW_len]; omega)]
  unfold methW
  rw [tAt_add _ _ _ _ _ _ (by rw [textW_len]; omega)]
  unfold textW
  rw [tAt_add _ _ _ _ _ _ (by omega)]
  exact first_at i hi
theorem codeW_check (B : ByteArray) (hB : B.size ≤ 200) : checkB (codeW B) = true := by
  have k8 : isClsB (firstT 8) = true := by decide +kernel
  have k11 : isClsB (firstT 11) = true := by decide +kernel
  have k12 : isClsB (firstT 12) = true := by decide +kernel
  have k14 : isClsB (firstT 14) = true := by decide +kernel
  have e : firstW.L.length = 23 := rfl
  have t : ∀ i, i < 23 → tAt (textW B).L i = firstT i := fun i hi => by unfold textW; rw [tAt_add _ _ _ _ _ _ (by omega)]; exact first_at i hi
  have t2 : ∀ i, i < 23 → tAt (methW B).L i = firstT i := fun i hi => by unfold methW; rw [tAt_add _ _ _ _ _ _ (by rw [textW_len]; omega)]; exact t i hi
  have c1 : checkB (textW B) = true := check_add first_check rfl (by decide) (by decide) (by decide) (by rw [show (8 : Int).toNat = 8 from rfl, first_at 8 (by omega)]; exact k8) (by
    unfold shapeB; rw [if_pos rfl]
    simp only [Bool.and_eq_true]
    first | exact ⟨rfl, decide_eq_true hB⟩ | (simp; exact hB))
  have c2 : checkB (methW B) = true := check_add c1 rfl (by show firstW.last + 1 < 3000; decide) (by rw [textW_len]; omega) (by rw [textW_len]; omega) (by rw [show (11 : Int).toNat = 11 from rfl, t 11 (by omega)]; exact k11) (by rw [textW_len]; kernel_rfl)
  have c3 : checkB ((methW B).add 12 1 (startF 0 24 (num 0) 16) ByteArray.empty) = true := check_add c2 rfl (by show firstW.last + 1 + 1 < 3000; decide) (by rw [methW_len]; omega) (by rw [methW_len]; omega) (by rw [show (12 : Int).toNat = 12 from rfl, t2 12 (by omega)]; exact k12) (by rw [methW_len]; kernel_rfl)
  unfold codeW PW.start
  exact check_add c3 rfl (by show firstW.last + 1 + 1 + 1 < 3000; decide) (by rw [len_add, methW_len]; omega) (by rw [len_add, methW_len]; omega) (by rw [show (14 : Int).toNat = 14 from rfl, tAt_add _ _ _ _ _ _ (by rw [methW_len]; omega), t2 14 (by omega)]; exact k14) (by rw [len_add, methW_len]; kernel_rfl)
theorem codeW_nx (B : ByteArray) (hB : B.size ≤ 200) : (newS (codeW B) 5).Nx 25 24 23 0 B := by
  have s := std_new (codeW_check B hB) (codeW_first B) 5
  have e3 : (newS (codeW B) 5).get 25 3 = objV 24 := by kernel_rfl
  have e5 : (newS (codeW B) 5).get 25 5 = objV 0 := by kernel_rfl
  exact ⟨⟨s.wf, by kernel_rfl, by rw [e3]; decide, by rw [e5]; decide⟩, by rw [s.ph]; decide, by kernel_rfl, e3, by kernel_rfl, by decide, by kernel_rfl, by kernel_rfl, by kernel_rfl⟩
end Go.Proofs.YtnhijjcplnomgaaGreat.World
