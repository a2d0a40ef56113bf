/-
  colloquylaw00: Method (without code, without literals).
-/
import Derived.Test.YtnhijjcplnomgaaGreatAdd
namespace Go.Proofs.YtnhijjcplnomgaaGreat.World
open Go.RowKit Go.Proofs.YtnhijjcplnomgaaGreat.Plain
set_option linter.unusedVariables false
attribute [local go_sem ↓] Go.wp_at_zero Go.wp_at_succ

theorem wp_name_calls {P : Program} {f : FuncId} {args : Array Value} {w : World} {Q : Ending → World → Prop} (h : ∀ W, W = w → Calls P f args W Q) : Calls P f args w Q := h w rfl
set_option maxRecDepth 100000 in
theorem rput0 (w : World) : Calls Tryz.prog 45 #[.slice none 0 0] w fun e w' => e = .returned (.string ByteArray.empty) ∧ Ext w w' := by
  have hcv : ∀ W, Sem.run Tryz.prog (convert 37 9 (.slice none 0 0)) W = .ok (.string ByteArray.empty) W := fun W => by kernel_rfl
  go_enter Tryz.func45, Tryz.ntmps45
  go_wp2
  go_loopw [3, 4] (fun l iv wr => l = .slice none 0 0 ∧ iv = .int .i64 0 ∧ wr = w) (fun _ iv _ => 0)
  case atStart => exact ⟨rfl, rfl, rfl⟩
  case round =>
    obtain ⟨rfl, rfl, rfl⟩ := hrel
    go_wp2
    go_ret
    exact ⟨rfl, is_ext _ _⟩
def PW.meth (W : PW) (a t p : Int) : PW := (W.add 8 3 [] ByteArray.empty).add 11 1 [num a, num t, num p, objV W.L.length] ByteArray.empty
set_option maxRecDepth 100000 in
set_option maxHeartbeats 1000000 in
theorem bmeth {w : World} {lo b : Nat} {W : PW} {x : WV} (h : BAt w lo b W x) (hlo : lo ≤ w.heap.size) (a t p : Int) (hn : W.L.length ≤ 90000) (hl : -90000 ≤ W.last ∧ W.last ≤ 90000) :
    Calls Tryz.prog 22 #[.pointer (some ⟨b, 0, none⟩), .int .i64 a, .int .i64 t, .int .i64 p, .slice none 0 0, .slice none 0 0] w fun e w' => e = .returned (.int .i64 (W.L.length + 1 : Nat)) ∧ (∃ x', BAt w' lo b (W.meth a t p) x') ∧ Keep (fun j => j = b ∨ lo ≤ j) w w' := by
  have HN := Lib.hid lnum
  have HO := Lib.hid lobj
  have HP := Lib.hid rput0
  unfold val num at HN
  unfold val objV at HO
  have HH := Lib.hid h
  have l1 := hl.1
  have l2 := hl.2
  clear h hl
  go_enter Tryz.func22, Tryz.ntmps22
  go_wp2_with fail
  refine (HP.out _).mono ?_
  rintro e w1 ⟨rfl, x1⟩
  have h1 := HH.out.ext x1
  have lo1 : lo ≤ w1.heap.size := by have := x1.below.size; omega
  have K1 := Lib.hid (Keep.of_ext x1 (fun j => j = b ∨ lo ≤ j))
  clear x1 HP
  have C := Lib.hid (badd h1 lo1 (vF := .slice none 0 0) (F := []) (row_nil _ _ _) (fun k hk => by simp [Value.ownBlock] at hk) 8 3 ByteArray.empty (by omega) (by omega))
  clear h1
  go_wp2_with fail
  refine C.out.mono ?_
  rintro e w2 ⟨rfl, x2, h2, k2⟩
  have lo2 : lo ≤ w2.heap.size := Nat.le_trans lo1 k2.size
  have K2 := Lib.hid (K1.out.trans (k2.mono (fun j hj => hj.imp id (fun e => (HH.out.bu.L.block e).1))))
  have H2 := Lib.hid h2
  clear K1 C h2 k2 HH
  generalize hn0 : W.L.length = n at *
  go_wp2_with (first | (go_at_call 15; refine (HN.out _ _).mono ?_; rintro e w3 ⟨rfl, x3⟩; have i3 : IsExt w2 w3 := ⟨(is_ext w2 _).trans x3⟩; clear x3) | (go_at_call 16; refine (HO.out _ _).mono ?_; rintro e w4 ⟨rfl, x4⟩; have i4 : IsExt w2 w4 := ⟨(is_ext w2 _).trans x4⟩; clear x4))
  refine wp_name_calls (fun w5 hW => ?_)
  have x5 : Ext w2 w5 := by rw [hW]; exact is_ext _ _
  have b5 : Blk w5 w4.heap.size 40 (flat 4 2 (cF [num a, num t, num p, objV n])).toArray := by rw [hW]; exact Blk.new _ _ _
  have lo5 : lo ≤ w5.heap.size := Nat.le_trans lo2 x5.below.size
  have e5 : (W.add 8 3 [] ByteArray.empty).L.length = n + 1 := by unfold PW.add; simp [hn0]
  have D := badd (F := [num a, num t, num p, objV n]) (H2.out.ext x5) lo5 (row_flat (n := 4) b5 (by omega)) (typ_blk b5) 11 1 ByteArray.empty (by omega) (by show _ ≤ W.last + 1 ∧ W.last + 1 ≤ _; omega)
  rw [e5] at D
  have DH := Lib.hid D
  have K5 := Lib.hid (K2.out.ext x5)
  clear hW b5 D x5 K2
  refine DH.out.mono ?_
  rintro e w6 ⟨rfl, x6, h6, k6⟩
  have P : Hid ((∃ x', BAt w6 lo b (W.meth a t p) x') ∧ Keep (fun j => j = b ∨ lo ≤ j) w w6) := Lib.hid ⟨⟨x6, by unfold PW.meth; rw [hn0]; exact h6⟩, K5.out.trans (k6.mono (fun j hj => hj.imp id (fun e => (H2.out.bu.L.block e).1)))⟩
  clear h6 k6 K5 DH
  go_wp2_with fail
  go_ret
  exact ⟨ret_int (by omega), P.out⟩
end Go.Proofs.YtnhijjcplnomgaaGreat.World
