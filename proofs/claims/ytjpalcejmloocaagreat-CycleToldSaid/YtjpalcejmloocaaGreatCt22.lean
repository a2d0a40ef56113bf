/-
  Reach4, as one text (a claim has at most 60 files).
-/
import Derived.Test.YtjpalcejmloocaaGreatCt21
namespace Go.Proofs.YtjpalcejmloocaaGreat.World
open Go.RowKit Go.Proofs.YtjpalcejmloocaaGreat.Plain
set_option linter.unusedVariables false
attribute [local go_sem ↓] Go.wp_at_zero Go.wp_at_succ

def upTo (k : Nat) : List Int := (List.range k).map fun (i : Nat) => (i : Int)
theorem upTo_succ (k : Nat) : upTo (k + 1) = upTo k ++ [(k : Int)] := by unfold upTo; rw [List.range_succ, List.map_append]; rfl
theorem upTo_len (k : Nat) : (upTo k).length = k := by unfold upTo; simp
structure RS (w wr : World) (cs : Array Value) (v : Value) (l : List Int) : Prop where
  x : Ext w wr
  b1 : Blk wr w.heap.size 31 cs
  own : OwnI wr (w.heap.size + 1) v l
theorem RS.ext {w wr w' : World} {cs : Array Value} {v : Value} {l : List Int} (h : RS w wr cs v l) (x : Ext wr w') : RS w w' cs v l := ⟨h.x.trans x, h.b1.ext x, h.own.ext x⟩
theorem RS.push {w wr w3 : World} {cs : Array Value} {v v' : Value} {l : List Int} {ob : Obj} {x : Int} (h : RS w wr cs v l) (g : (wr.alloc ob).grownBy w3 v.ownBlock) (o : w3.ownsRow (w.heap.size + 1) 3 1 v' (l.length + 1) (l.map (Value.int .i64) ++ [.int .i64 x])) : RS w w3 cs v' (l ++ [x]) := by
  have h' := h.ext ((Ext.refl wr).alloc ob)
  have k : Keep (fun k => v.ownBlock = some k) (wr.alloc ob) w3 := ⟨g.os, g.tape, g.output, g.size, fun k hk hn => g.block k hk (fun e => hn e.symm)⟩
  refine ⟨Ext.of_below (Keep.below h'.x.below k h'.x.below.size (fun i hi hs => ?_)), h'.b1.keep k (fun hs => ?_), ?_⟩
  · have := (h.own.own.block hs).1; omega
  · have := (h.own.own.block hs).1; omega
  · unfold OwnI; rw [List.length_append, List.map_append]; exact o
theorem OwnI.base {w : World} {b b' : Nat} {v : Value} {zs : List Int} (h : OwnI w b v zs) (hb : b' ≤ b) : OwnI w b' v zs := by
  have := h.own.base hb
  unfold Own at this; rw [flat_one] at this; exact this
/-- the list that is read lies beside the one that grows -/
theorem OwnI.beside {wr w3 : World} {B gg n' cc : Nat} {v u : Value} {zs : List Int} {ob : Obj} (h : OwnI wr B u zs) (ap : Apart u v) (g : (wr.alloc ob).grownBy w3 v.ownBlock) (hat : v.ownBlock = some gg ∨ gg = wr.heap.size + 1) : OwnI w3 B u zs ∧ Apart u (.slice (some ⟨gg, 0, none⟩) n' cc) := by
  have h' : (wr.alloc ob).ownsRow B 3 1 u zs.length (zs.map (Value.int .i64)) := World.ownsRow.alloc h ob
  have k : Keep (fun k => v.ownBlock = some k) (wr.alloc ob) w3 := ⟨g.os, g.tape, g.output, g.size, fun k hk hn => g.block k hk (fun e => hn e.symm)⟩
  refine ⟨⟨h'.1, ?_⟩, fun j hj hu => ?_⟩
  · rcases h'.2 with hn | ⟨r, cap, cur, e1, h1, hg, rest⟩
    · exact .inl hn
    · refine .inr ⟨r, cap, cur, e1, h1, Blk.keep (show Blk _ r _ cur from hg) k (fun hs => ap r (by rw [e1]; rfl) hs), rest⟩
  · simp [Value.ownBlock] at hu
    subst hu
    rcases hat with e | e
    · exact ap _ hj e
    · obtain ⟨_, cs, hc⟩ := h.own.block hj
      have := hc.lt
      omega
def rootsOf (R : PR) : List Int := upTo 23 ++ (listOf R).filter (fun x => decide (23 ≤ x))
theorem filt_take (l : List Int) (i : Nat) (hi : i < l.length) : (l.take (i + 1)).filter (fun x => decide (23 ≤ x)) = (l.take i).filter (fun x => decide (23 ≤ x)) ++ (if 23 ≤ l.getD i 0 then [l.getD i 0] else []) := by
  rw [List.take_succ_eq_append_getElem hi, List.filter_append, List.getD_eq_getElem?_getD, List.getElem?_eq_getElem hi]
  congr 1
  show List.filter _ [l[i]] = if 23 ≤ l[i] then [l[i]] else []
  by_cases h : 23 ≤ l[i]
  · rw [if_pos h, List.filter_cons_of_pos (by simpa using h)]; rfl
  · rw [if_neg h, List.filter_cons_of_neg (by simpa using h)]; rfl
set_option maxRecDepth 100000 in
set_option maxHeartbeats 4000000 in
theorem roots_ {w : World} {x : WV} {W : PW} (h : WorldAt w x W) (hlen : 2 + W.R.ready.length + 2 * W.R.wait.length + W.R.due.length < 900000) :
    Calls Tryz.prog 323 #[.agg (cellsW W x)] w fun e w' => ∃ v, e = .returned v ∧ OwnI w' w.heap.size v (rootsOf W.R) ∧ Ext w w' := by
  obtain ⟨vL, fs, vD, vRe, vWa, vDu, vSn⟩ := x
  have HL : Hid (∀ W2, Ext w W2 → Calls Tryz.prog 93 #[.agg (cellsR W.R vRe vWa vDu vSn)] W2 fun e w' => ∃ v, e = .returned v ∧ OwnI w' W2.heap.size v (listOf W.R) ∧ Ext W2 w') := Lib.hid fun W2 e => list_ (h.ready.ext e) (h.wait.ext e) (h.due.ext e) (by omega)
  clear h
  obtain ⟨i0, hi, hz0, hz1, hz2⟩ := info_parts infoN
  have US := Lib.hid upTo_succ
  have UL := Lib.hid upTo_len
  go_enter Tryz.func323, Tryz.ntmps323
  unfold cellsW
  go_wp2
  go_loopw [3, 7] (fun u3 iv wr => ∃ k : Nat, k ≤ 23 ∧ iv = .int .i64 k ∧ ∃ A c, u3 = .slice A k c ∧ RS w wr (cellsW W ⟨vL, fs, vD, vRe, vWa, vDu, vSn⟩) (.slice A k c) (upTo k)) (fun u3 iv _ => 23 - (intOf iv).toNat)
  case atStart => exact ⟨0, by omega, rfl, _, _, rfl, (Ext.refl w).alloc _, Blk.new w _ _, (by have e : upTo 0 = [] := rfl
                                                                                               rw [e]; exact OwnI.nil _ _)⟩
  case round =>
    obtain ⟨k, hk, rfl, A, c, rfl, L⟩ := hrel
    have LL := Lib.hid L
    by_cases hlt : k < 23
    · have iI : (k : Int) < 23 := by omega
      have o2 := L.own
      unfold OwnI at o2
      rw [UL.out] at o2
      have O2 := Lib.hid (o2.alloc (.cells #[.int .i64 k] 3))
      have s2 := L.x.below.size
      have b2 := L.b1.lt
      clear o2 L
      go_wp2_with (at_builtin; refine wpList_append_lies _ rfl _ _ _ rfl (w.heap.size + 1) 3 i0 (.int .i64 0) 1 8 Tryz.underlying25 hi hz0 hz1 hz2 rfl (by decide) _ _ _ (by rfl) O2.out ⟨wr.heap.size, 0, none⟩ 1 1 [.int .i64 k] (by rfl) (by rfl) (World.news_of_block (heap_alloc_new wr _)) (by simp [Value.oneCell']) (by omega) (by unfold maxLen; omega) (by omega) (by simp; omega) (wr.heap.size + 1) (by simp) ?_; intro gg cc w3 o3 g3 hat hlt3)
      have L3 := LL.out.push (x := (k : Int)) g3 (by rw [UL.out]; exact o3)
      rw [← US.out] at L3
      clear o3 g3 hat
      go_roundw
      case rel => exact ⟨k + 1, by omega, by go_num, _, _, rfl, L3⟩
      case measure => simp [intOf]; omega
    · obtain rfl : k = 23 := by omega
      obtain ⟨q3, f3, lt3⟩ := L.b1.rules
      unfold cellsW at q3
      have C := Lib.hid (HL.out wr L.x)
      clear L HL
      unfold cellsR at C
      go_wp2_with fail
      refine C.out.mono ?_
      clear C q3 f3 lt3
      rintro e w4 ⟨v4, rfl, o4, x4⟩
      have AP := Lib.hid (Own.apart o4.own LL.out.own.own)
      have I4 := Lib.hid o4.ints
      have O4 := Lib.hid o4
      clear o4
      have L4 := LL.out.ext x4
      obtain ⟨A4, c4, rfl, _, _⟩ := Row.form I4.out
      have FT := Lib.hid (filt_take (listOf W.R))
      have FL := Lib.hid (fun i => (List.length_filter_le (fun x => decide (23 ≤ x)) ((listOf W.R).take i)))
      have LN : (listOf W.R).length < 900000 := by
        unfold listOf
        have e1 := fold_len W.R.due (W.R.wait.foldl (fun l p => add1 (add1 l p.1) p.2) (W.R.ready.foldl add1 (add1 (add1 [] W.R.proc) W.R.frame)))
        have e2 := fold_len2 W.R.wait (W.R.ready.foldl add1 (add1 (add1 [] W.R.proc) W.R.frame))
        have e3 := fold_len W.R.ready (add1 (add1 [] W.R.proc) W.R.frame)
        have e4 := add1_len [] W.R.proc
        have e5 := add1_len (add1 [] W.R.proc) W.R.frame
        simp only [List.length_nil] at e4
        omega
      have UT : Hid (rootsOf W.R = upTo 23 ++ ((listOf W.R).take (listOf W.R).length).filter (fun x => decide (23 ≤ x))) := Lib.hid (by rw [List.take_length]; rfl)
      have U0 : Hid (upTo 23 = upTo 23 ++ ((listOf W.R).take 0).filter (fun x => decide (23 ≤ x))) := Lib.hid (by rw [List.take_zero, List.filter_nil, List.append_nil])
      rw [U0.out] at L4
      generalize wr.heap.size = B4 at O4
      have LL4 := Lib.hid L4
      have U23 : Hid ((upTo 23 ++ ((listOf W.R).take 0).filter (fun x => decide (23 ≤ x))).length = 23) := Lib.hid (by rw [← U0.out, UL.out])
      clear L4 LL
      generalize listOf W.R = ls at *
      go_wp2_with fail
      go_loopw [3, 19] (fun u3 iv wr => ∃ i : Nat, i ≤ ls.length ∧ iv = .int .i64 i ∧ ∃ A c k, u3 = .slice A k c ∧ (upTo 23 ++ (ls.take i).filter (fun x => decide (23 ≤ x))).length = k ∧ (OwnI wr B4 (.slice A4 ls.length c4) ls ∧ Apart (.slice A4 ls.length c4) (.slice A k c)) ∧ RS w wr (cellsW W ⟨vL, fs, vD, vRe, vWa, vDu, vSn⟩) (.slice A k c) (upTo 23 ++ (ls.take i).filter (fun x => decide (23 ≤ x)))) (fun u3 iv _ => ls.length - (intOf iv).toNat)
      case atStart => exact ⟨0, Nat.zero_le _, rfl, _, _, _, rfl, U23.out, ⟨O4.out, AP.out⟩, LL4.out⟩
      case round =>
        clear LL4 U23 hlt hk O4 AP I4
        obtain ⟨i, hi', rfl, A, c, k, rfl, hk, XX, L⟩ := hrel
        have LL := Lib.hid L
        have KK := Lib.hid hk
        have XH := Lib.hid XX
        by_cases hlt : i < ls.length
        · obtain ⟨b, off, rfl, hb, hc⟩ := Row.at_ XX.1.ints i hlt
          have c0 : wr.cell? ⟨b, off + i * 1, none⟩ = some (.int .i64 (ls.getD i 0)) := hc 0 (by omega)
          rw [Nat.mul_one] at c0
          have ft := FT.out i hlt
          have fl := FL.out i
          rw [List.length_take] at fl
          have k9 : k < 1000000 := by rw [← hk, List.length_append, UL.out]; omega
          clear hc XX fl
          generalize ls.getD i 0 = y at c0 ft
          have iI : (i : Int) < (ls.length : Int) := by omega
          have o2 := L.own
          unfold OwnI at o2
          rw [hk] at o2
          have O2 := Lib.hid (o2.alloc (.cells #[.int .i64 y] 3))
          have s2 := L.x.below.size
          have b2 := L.b1.lt
          clear o2 L hk
          by_cases hy : 23 ≤ y
          · rw [if_pos hy] at ft
            have FE := Lib.hid ft
            clear ft
            go_wp2_with (at_builtin; refine wpList_append_lies _ rfl _ _ _ rfl (w.heap.size + 1) 3 i0 (.int .i64 0) 1 8 Tryz.underlying25 hi hz0 hz1 hz2 rfl (by decide) _ _ _ (by rfl) O2.out ⟨wr.heap.size, 0, none⟩ 1 1 [.int .i64 y] (by rfl) (by rfl) (World.news_of_block (heap_alloc_new wr _)) (by simp [Value.oneCell']) (by omega) (by unfold maxLen; omega) (by omega) (by simp; omega) (wr.heap.size + 1) (by simp) ?_; intro gg cc w3 o3 g3 hat hlt3)
            have L3 := LL.out.push (x := y) g3 (by rw [KK.out]; exact o3)
            rw [List.append_assoc, ← FE.out] at L3
            have BS := OwnI.beside (n' := k + 1) (cc := cc) XH.out.1 XH.out.2 g3 hat
            clear o3 g3 hat
            go_roundw
            case rel => exact ⟨i + 1, by omega, by go_num, _, _, _, rfl, by rw [FE.out, ← List.append_assoc, List.length_append, KK.out]; rfl, BS, L3⟩
            case measure => simp [intOf]; omega
          · rw [if_neg hy, List.append_nil] at ft
            have FE := Lib.hid ft
            clear ft
            go_wp2_with fail
            go_roundw
            case rel => exact ⟨i + 1, by omega, by go_num, _, _, _, rfl, by rw [FE.out]; exact KK.out, XH.out, by rw [FE.out]; exact LL.out⟩
            case measure => simp [intOf]; omega
        · have e : i = ls.length := by omega
          subst e
          rw [← UT.out] at L
          have LL5 := Lib.hid L
          clear L LL hk XX
          go_wp2_with fail
          go_ret
          exact ⟨_, rfl, LL5.out.own.base (by omega), LL5.out.x⟩
end Go.Proofs.YtjpalcejmloocaaGreat.World
