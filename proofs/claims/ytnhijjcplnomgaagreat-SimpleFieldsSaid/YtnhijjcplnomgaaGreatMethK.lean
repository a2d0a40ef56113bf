/-
  colloquylaw00: Method (without code, without literals): what is neither the builder nor a list of things stays.
-/
import Derived.Test.YtnhijjcplnomgaaGreatMeth
namespace Go.Proofs.YtnhijjcplnomgaaGreat.World
open Go.RowKit Go.Proofs.YtnhijjcplnomgaaGreat.Plain
set_option linter.unusedVariables false
attribute [local go_sem ↓] Go.wp_at_zero Go.wp_at_succ
def Others (w w' : World) : Prop := ∀ g t cs, t ≠ 34 → t ≠ 62 → Blk w g t cs → Blk w' g t cs
theorem Others.ext {w w' : World} (x : Ext w w') : Others w w' := fun g t cs _ _ h => h.ext x
theorem Others.trans {w w' w2 : World} (a : Others w w') (b : Others w' w2) : Others w w2 := fun g t cs h1 h2 h => b g t cs h1 h2 (a g t cs h1 h2 h)
theorem BAt.others {w w' : World} {lo b : Nat} {W : PW} {x : WV} (h : BAt w lo b W x) (k : Keep (fun j => j = b ∨ x.L.ownBlock = some j) w w') : Others w w' := fun g t cs h1 h2 hb => hb.keep k (fun c => by
  rcases c with c | c
  · subst c; exact hb.ne h.blk h1 rfl
  · obtain ⟨_, cs2, hc⟩ := h.bu.L.block c
    exact hb.ne hc h2 rfl)
set_option maxRecDepth 100000 in
set_option maxHeartbeats 1000000 in
theorem bmethK {w : World} {lo b : Nat} {W : PW} {x : WV} (h : BAt w lo b W x) (hlo : lo ≤ w.heap.size) (a t p : Int) (hn : W.L.length ≤ 90000) (hl : -90000 ≤ W.last ∧ W.last ≤ 90000) :
    Calls Tryz.prog 22 #[.pointer (some ⟨b, 0, none⟩), .int .i64 a, .int .i64 t, .int .i64 p, .slice none 0 0, .slice none 0 0] w fun e w' => e = .returned (.int .i64 (W.L.length + 1 : Nat)) ∧ (∃ x', BAt w' lo b (W.meth a t p) x') ∧ Keep (fun j => j = b ∨ lo ≤ j) w w' ∧ Others w w' := by
  have HN := Lib.hid lnum
  have HO := Lib.hid lobj
  have HP := Lib.hid rput0
  unfold val num at HN
  unfold val objV at HO
  have HH := Lib.hid h
  have l1 := hl.1
  have l2 := hl.2
  clear h hl
  go_enter Tryz.func22, Tryz.ntmps22
  go_wp2_with fail
  refine (HP.out _).mono ?_
  rintro e w1 ⟨rfl, x1⟩
  have h1 := HH.out.ext x1
  have lo1 : lo ≤ w1.heap.size := by have := x1.below.size; omega
  have K1 := Lib.hid (Keep.of_ext x1 (fun j => j = b ∨ lo ≤ j))
  have O1 := Lib.hid (Others.ext x1)
  have H1' := Lib.hid h1
  clear x1 HP
  have C := Lib.hid (badd h1 lo1 (vF := .slice none 0 0) (F := []) (row_nil _ _ _) (fun k hk => by simp [Value.ownBlock] at hk) 8 3 ByteArray.empty (by omega) (by omega))
  clear h1
  go_wp2_with fail
  refine C.out.mono ?_
  rintro e w2 ⟨rfl, x2, h2, k2⟩
  have lo2 : lo ≤ w2.heap.size := Nat.le_trans lo1 k2.size
  have K2 := Lib.hid (K1.out.trans (k2.mono (fun j hj => hj.imp id (fun e => (HH.out.bu.L.block e).1))))
  have H2 := Lib.hid h2
  have O2 := Lib.hid (O1.out.trans (H1'.out.others k2))
  clear K1 C h2 k2 HH O1 H1'
  generalize hn0 : W.L.length = n at *
  go_wp2_with (first | (go_at_call 15; refine (HN.out _ _).mono ?_; rintro e w3 ⟨rfl, x3⟩; have i3 : IsExt w2 w3 := ⟨(is_ext w2 _).trans x3⟩; clear x3) | (go_at_call 16; refine (HO.out _ _).mono ?_; rintro e w4 ⟨rfl, x4⟩; have i4 : IsExt w2 w4 := ⟨(is_ext w2 _).trans x4⟩; clear x4))
  refine wp_name_calls (fun w5 hW => ?_)
  have x5 : Ext w2 w5 := by rw [hW]; exact is_ext _ _
  have b5 : Blk w5 w4.heap.size 40 (flat 4 2 (cF [num a, num t, num p, objV n])).toArray := by rw [hW]; exact Blk.new _ _ _
  have lo5 : lo ≤ w5.heap.size := Nat.le_trans lo2 x5.below.size
  have e5 : (W.add 8 3 [] ByteArray.empty).L.length = n + 1 := by unfold PW.add; simp [hn0]
  have D := badd (F := [num a, num t, num p, objV n]) (H2.out.ext x5) lo5 (row_flat (n := 4) b5 (by omega)) (typ_blk b5) 11 1 ByteArray.empty (by omega) (by show _ ≤ W.last + 1 ∧ W.last + 1 ≤ _; omega)
  rw [e5] at D
  have DH := Lib.hid D
  have K5 := Lib.hid (K2.out.ext x5)
  have H5 := Lib.hid (H2.out.ext x5)
  have O5 := Lib.hid (O2.out.trans (Others.ext x5))
  clear hW b5 D x5 K2
  refine DH.out.mono ?_
  rintro e w6 ⟨rfl, x6, h6, k6⟩
  have P : Hid ((∃ x', BAt w6 lo b (W.meth a t p) x') ∧ Keep (fun j => j = b ∨ lo ≤ j) w w6 ∧ Others w w6) := Lib.hid ⟨⟨x6, by unfold PW.meth; rw [hn0]; exact h6⟩, K5.out.trans (k6.mono (fun j hj => hj.imp id (fun e => (H2.out.bu.L.block e).1))), O5.out.trans (H5.out.others k6)⟩
  clear h6 k6 K5 DH
  go_wp2_with fail
  go_ret
  exact ⟨ret_int (by omega), P.out⟩
end Go.Proofs.YtnhijjcplnomgaaGreat.World
