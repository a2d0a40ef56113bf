/-
  Load, as one text (a claim has at most 60 files).
-/
import Derived.Test.YtjpalcejmloocaaGreatVq29
import Derived.Test.YtjpalcejmloocaaGreatVq20
import Derived.Test.YtjpalcejmloocaaGreatVq30
import Derived.Test.YtjpalcejmloocaaGreatVq19
import Derived.Test.YtjpalcejmloocaaGreatVq31
import Derived.BigGuardPart
namespace Go.Proofs.YtjpalcejmloocaaGreat.World
open Go.RowKit Go.Proofs.YtjpalcejmloocaaGreat.Plain Go.Proofs.YtjpalcejmloocaaGreat.Heap
set_option linter.unusedVariables false
attribute [local go_sem ↓] Go.wp_at_zero Go.wp_at_succ
/-- a scope whose gotos lead forward alone -/
theorem wp_scope_fwd {P : Program} {a : Act} {w : Go.World} {Q : Exit → Act → Go.World → Prop} {c rest : Code} (l : Nat) (hf : findLabel c l = some rest)
    (h : ∀ J : Act → Go.World → Prop, (∀ a w, rest.wp P (Exit.noGoto Q) a w → J a w) → c.wp P (Exit.jump l J Q) a w) : (Code.scope c).wp P Q a w :=
  wp_scope_jumps l (fun a w => rest.wp P (Exit.noGoto Q) a w) (fun _ _ => 0) hf (h _ (fun _ _ h => h)) (fun a w h => wp_mono h (fun e a' w' h' => by
    cases e <;> first | exact h' | exact h'.elim))
def LoadPost (w : Go.World) (e : Ending) (w' : Go.World) : Prop :=
  (∃ hp A c, e = .returned (.tuple #[.pointer (some ⟨hp, 0, none⟩), .slice A 23 c, .bool true]) ∧ OwnI w' w.heap.size (.slice A 23 c) (Heap.atL 23)) ∧ Ext w w'
set_option maxRecDepth 100000 in
set_option maxHeartbeats 4000000 in
theorem _root_.Go.Proofs.YtjpalcejmloocaaGreat.Heap.LS2.at_ {w wr : Go.World} {hp base g off c : Nat} (h : LS2 w wr hp base (.slice (some ⟨g, off, none⟩) 23 c)) {i : Nat} (hi : i < 23) : wr.cell? ⟨g, off + i, none⟩ = some (.int .i64 ((tO i : Int) + 1)) := by
  obtain ⟨g', off', e, _, q⟩ := h.cell
  injection e with e
  injection e with e1 e2
  subst e1 e2
  exact q i hi
theorem lword_at {w : Go.World} {base : Nat} {A : Option Addr} {c : Nat} (h : OwnI w base (.slice A 23 c) (Heap.atL 23)) (o : Bool) (k : Int) (k0 : 0 ≤ k) (k1 : k ≤ 1000000) : Calls Tryz.prog 125 #[.agg #[.bool o, .int .i64 k], .slice A 23 c] w (SomeW w) :=
  lword (zs := Heap.atL 23) (c := c) h (fun i hi => by
    rw [Heap.atL_len] at hi
    rw [Heap.atL_at hi]
    have := tO_up i hi
    omega) (by rw [Heap.atL_len]; omega) o k k0 k1
theorem byte_bd (b : UInt8) : 0 ≤ IntKind.i64.wrap (b.toNat : Int) ∧ IntKind.i64.wrap (b.toNat : Int) ≤ 255 := by
  have := b.toNat_lt
  rw [IntWalk.i64_in _ (by omega)]
  omega
theorem first_vals : ∀ i, i < 23 → ∀ m, m < (firstT i).F.length → 0 ≤ (vAt (firstT i).F m).n ∧ (vAt (firstT i).F m).n ≤ 1000 := by decide +kernel
theorem first_cls : ∀ i, i < 23 → 0 ≤ (firstT i).cls ∧ (firstT i).cls < 23 := by decide +kernel
set_option maxRecDepth 100000 in
set_option maxHeartbeats 4000000 in
theorem load_ {w : Go.World} {x : WV} {W : PW} (h : WorldAt w x W) (hL : W.L = firstL 23) (hd : W.dead = []) (hc : checkB W = true) :
    Calls Tryz.prog 98 #[.agg (cellsW W x), .int .i64 1000] w (LoadPost w) := by
  have CK := Lib.hid (fun w' (e : Ext w w') => check (h.ext e))
  rw [hc] at CK
  have CD := Lib.hid (fun w' (e : Ext w w') => containsBool (h.dead.ext e))
  rw [hd] at CD
  have CD : Hid (∀ w', Ext w w' → Calls Tryz.prog 97 #[x.dead, .bool true] w' fun e w'' => e = .returned (.bool false) ∧ Ext w' w'') := CD
  have hn : W.L.length = 23 := by rw [hL, firstL_len]
  have TA := Lib.hid (fun i (hi : i < 23) => (by rw [hL]; exact firstL_at 23 i hi : tAt W.L i = firstT i))
  obtain ⟨vL, fs, vD, vRe, vWa, vDu, vSn⟩ := x
  obtain ⟨AL, cL, e1, l1, l2⟩ := h.L.row.form
  have e1 : vL = .slice AL W.L.length cL := e1
  subst e1
  have HC := Lib.hid (fun (j : Nat) (hj : j < W.L.length) => h.L.cells rfl j hj)
  have HF := Lib.hid (fun (j : Nat) (hj : j < W.L.length) => Row.form (h.L.flds j hj))
  have HV := Lib.hid (fun (j : Nat) (hj : j < W.L.length) => h.L.flds j hj)
  unfold cellsW at CK ⊢
  clear h hL hd hc
  rw [hn] at l1 CK CD HC HF HV ⊢
  clear hn
  obtain ⟨i0, hI, hI0, hI1, hI2⟩ := info_parts infoN
  go_enter Tryz.func98, Tryz.ntmps98
  go_upto_region 2 with (fail)
  refine wp_name (fun W0 hW => ?_)
  have BW := Lib.hid (Blk.new' hW)
  have X0 := Lib.hid ((Ext.refl w).alloc' hW)
  clear hW
  refine wp_scope_fwd 0 rfl (fun J _ => ?_)
  go_big_wp2_with fail
  refine (Heap.new 1000 1000 1000 _ (by decide) (by decide) (by omega)).mono ?_
  rintro e w1 ⟨⟨hp, rfl, H1⟩, x1⟩
  have X1 := Lib.hid (X0.out.trans x1)
  have B1 := Lib.hid (BW.out.ext x1)
  have L1 : Hid (LS1 W0 w1 hp W0.heap.size (.slice none 0 0) 0) := Lib.hid ⟨x1, Nat.le_refl _, x1.below.size, H1, OwnI.nil _ _⟩
  obtain ⟨r1, r2, r3⟩ := B1.out.rules
  clear H1 x1
  go_big_wp2_with ((first | (go_at_call 20; refine (CK.out _ X1.out).mono ?_; rintro e w2 ⟨rfl, x2⟩; obtain ⟨q1, q2, q3⟩ := (B1.out.ext x2).rules) | (go_at_call 97; refine (CD.out _ (X1.out.trans x2)).mono ?_; rintro e w3 ⟨rfl, x3⟩; obtain ⟨p1, p2, p3⟩ := (B1.out.ext (x2.trans x3)).rules)))
  have L3 := Lib.hid (L1.out.ext (x2.trans x3))
  have B3 := Lib.hid (B1.out.ext (x2.trans x3))
  clear r1 r2 r3 q1 q2 q3 p1 p2 p3 L1 B1 x2 x3 X1 CK CD
  go_loopw [7, 31] (fun vv iv wr => ∃ i : Nat, i ≤ 23 ∧ iv = .int .i64 i ∧ ∃ A c, vv = .slice A i c ∧ LS1 W0 wr hp W0.heap.size (.slice A i c) i) (fun _ iv _ => 23 - (intOf iv).toNat)
  case atStart => exact ⟨0, by omega, rfl, none, 0, rfl, L3.out⟩
  case round =>
    clear L3 B3
    obtain ⟨i, hi, rfl, A, c, rfl, L⟩ := hrel
    have LL := Lib.hid L
    have XA := Lib.hid (X0.out.trans L.x)
    clear L
    by_cases hlt : i < 23
    · obtain ⟨b, off, rfl, hb, d0, d1, d2, d3, d4, d5⟩ := HC.out i hlt
      replace d4 : w.cell? ⟨b, off + i * 6 + 4, none⟩ = some (fs i) := d4
      obtain ⟨AF', cF, ef, f1, f2⟩ := HF.out i hlt
      replace ef : fs i = .slice AF' (tAt W.L i).F.length cF := ef
      rw [ef] at d4
      rw [TA.out i hlt] at d0 d1 d2 d3 d4 d5
      replace d0 := (XA.out.below.cell (p := ⟨b, off + i * 6, none⟩) hb).trans d0
      replace d1 := (XA.out.below.cell (p := ⟨b, off + i * 6 + 1, none⟩) hb).trans d1
      replace d2 := (XA.out.below.cell (p := ⟨b, off + i * 6 + 2, none⟩) hb).trans d2
      replace d3 := (XA.out.below.cell (p := ⟨b, off + i * 6 + 3, none⟩) hb).trans d3
      replace d4 := (XA.out.below.cell (p := ⟨b, off + i * 6 + 4, none⟩) hb).trans d4
      replace d5 := (XA.out.below.cell (p := ⟨b, off + i * 6 + 5, none⟩) hb).trans d5
      have hb2 : b < wr.heap.size := Nat.lt_of_lt_of_le hb XA.out.below.size
      have iI : (i : Int) < 23 := by omega
      have fb : (firstT i).F.length ≤ 8 ∧ (firstT i).B.size ≤ 8 := by have := first_facts i hlt; omega
      obtain ⟨z, hz⟩ : ∃ z : Int, (tO i : Int) + 1 = z := ⟨_, rfl⟩
      have MK := Lib.hid (fun w' H => make1 (w := w') (h := hp) (base := W0.heap.size) hlt H)
      unfold Made1 at MK
      rw [hz] at MK
      have HZ := Lib.hid hz
      have AL' := Lib.hid (Heap.atL_len i)
      generalize firstT i = t at *
      clear hz ef f1 f2 HC HF HV
      go_big_wp2_with ((first | (go_at_call 121; refine (MK.out _ (LL.out.ext ((Ext.refl wr).alloc _)).heap).mono ?_; rintro e w4 ⟨rfl, H4, k4⟩; have M4 := LS1.made (LL.out.ext ((Ext.refl wr).alloc _)) k4; obtain ⟨x4, o4, s4⟩ := M4; have H4 := Lib.hid H4; have X4 := Lib.hid x4; have O4 := Lib.hid o4; have o5 := o4; unfold OwnI at o5; rw [AL'.out] at o5; have O5 := Lib.hid (o5.alloc (.cells #[.int .i64 z] 3)); clear k4 x4 o4 o5) | (at_builtin; refine wpList_append_lies _ rfl _ _ _ rfl W0.heap.size 3 i0 (.int .i64 0) 1 8 Tryz.underlying25 hI hI0 hI1 hI2 rfl (by decide) _ _ _ (by rfl) O5.out ⟨w4.heap.size, 0, none⟩ 1 1 [.int .i64 z] (by rfl) (by rfl) (World.news_of_block (heap_alloc_new w4 _)) (by simp [Value.oneCell']) (by omega) (by unfold maxLen; omega) (by omega) (by simp; omega) (w4.heap.size + 1) (by simp) ?_; intro gg cc w6 o6 g6 hat6 hlt6)))
      have P := Lib.hid (LS1.push (v' := .slice (some ⟨gg, 0, none⟩) (i + 1) cc) X4.out (Nat.le_refl _) s4 H4.out O4.out g6 (by rw [HZ.out]; exact o6))
      clear o6 g6 hat6 O5 O4 X4 H4
      go_roundw
      case rel => exact ⟨i + 1, by omega, by go_num, _, _, rfl, P.out⟩
      case measure => simp [intOf]; omega
    · obtain rfl : i = 23 := by omega
      rw [show ((23 : Nat) : Int) = 23 from rfl]
      have BB := Lib.hid (BW.out.ext LL.out.x)
      obtain ⟨r1, r2, r3⟩ := BB.out.rules
      go_big_wp2_with fail
      clear r1 r2 r3
      have M := Lib.hid LL.out.second
      clear LL XA BB
      rename World => wo
      go_loopw [61] (fun iv wq => ∃ j : Nat, j ≤ 23 ∧ iv = .int .i64 j ∧ LS2 W0 wq hp W0.heap.size (.slice A 23 c)) (fun iv _ => 23 - (intOf iv).toNat)
      case atStart => exact ⟨0, by omega, rfl, M.out⟩
      case round =>
        clear M
        obtain ⟨j, hj, rfl, L2⟩ := hrel
        have XA := Lib.hid (X0.out.trans L2.x)
        have LL := Lib.hid L2
        clear L2
        by_cases hlt2 : j < 23
        · obtain ⟨b, off, rfl, hb, d0, d1, d2, d3, d4, d5⟩ := HC.out j hlt2
          replace d4 : w.cell? ⟨b, off + j * 6 + 4, none⟩ = some (fs j) := d4
          obtain ⟨AF', cF, ef, f1, f2⟩ := HF.out j hlt2
          replace ef : fs j = .slice AF' (tAt W.L j).F.length cF := ef
          have HVj := Lib.hid (HV.out j hlt2)
          rw [ef] at d4 HVj
          rw [TA.out j hlt2] at d0 d1 d2 d3 d4 d5 HVj
          replace d0 := (XA.out.below.cell (p := ⟨b, off + j * 6, none⟩) hb).trans d0
          replace d1 := (XA.out.below.cell (p := ⟨b, off + j * 6 + 1, none⟩) hb).trans d1
          replace d2 := (XA.out.below.cell (p := ⟨b, off + j * 6 + 2, none⟩) hb).trans d2
          replace d3 := (XA.out.below.cell (p := ⟨b, off + j * 6 + 3, none⟩) hb).trans d3
          replace d4 := (XA.out.below.cell (p := ⟨b, off + j * 6 + 4, none⟩) hb).trans d4
          replace d5 := (XA.out.below.cell (p := ⟨b, off + j * 6 + 5, none⟩) hb).trans d5
          have hb2 : b < wr.heap.size := Nat.lt_of_lt_of_le hb XA.out.below.size
          have jI : (j : Int) < 23 := by omega
          have fl8 : (firstT j).F.length ≤ 8 ∧ (firstT j).B.size ≤ 8 := by have := first_facts j hlt2; omega
          go_upto_region 14 with (fail)
          refine wp_name (fun W1 h1 => ?_)
          have B1 := Lib.hid (Blk.new' h1)
          have X1 := (Ext.refl wr).alloc' h1
          have S1 := Lib.hid (LL.out.ext X1)
          have H1 := Lib.hid ((Nat.le_refl _ : wr.heap.size ≤ wr.heap.size))
          clear h1 d0 d1 d2 d3 d4 d5 hb hb2 LL
          generalize wr.heap.size = q at *
          obtain ⟨kc, ek⟩ := Int.eq_ofNat_of_zero_le (first_cls j hlt2).1
          have kl : kc < 23 := by have := first_cls j hlt2; omega
          rw [ek] at B1
          obtain ⟨gp, op, eA, gl, _⟩ := S1.out.cell
          subst eA
          have SC := Lib.hid (fun y (e : Ext W1 y) => (S1.out.ext e).class_ hlt2 ((tO kc : Int) + 1) (by omega) (by have := tO_up kc kl; omega))
          have CJ := Lib.hid (fun y (L : LS2 W0 y hp W0.heap.size (.slice (some ⟨gp, op, none⟩) 23 c)) => L.at_ hlt2)
          have CK2 := Lib.hid (fun y (L : LS2 W0 y hp W0.heap.size (.slice (some ⟨gp, op, none⟩) 23 c)) => L.at_ kl)
          have SM := Lib.hid (fun y (L : LS2 W0 y hp W0.heap.size (.slice (some ⟨gp, op, none⟩) 23 c)) (fi : Bool) => L.mark_ hlt2 fi)
          have SF := Lib.hid (fun y (L : LS2 W0 y hp W0.heap.size (.slice (some ⟨gp, op, none⟩) 23 c)) (hf : (firstT j).fmt ≠ 3) (k : Nat) (hk : k < tW j) (x : Int) (hx : 0 ≤ x ∧ x < 4294967296) => L.field_ hlt2 hf hk x hx)
          have SB := Lib.hid (fun y (L : LS2 W0 y hp W0.heap.size (.slice (some ⟨gp, op, none⟩) 23 c)) (hf : (firstT j).fmt = 3) (k : Nat) (hk : k < 4 * tW j) (u : Int) (hu : 0 ≤ u ∧ u ≤ 255) => L.byte_ hlt2 hf hk u hu)
          have LW := Lib.hid (fun y (L : LS2 W0 y hp W0.heap.size (.slice (some ⟨gp, op, none⟩) 23 c)) (o : Bool) (k : Int) (k0 : 0 ≤ k) (k1 : k ≤ 1000000) => lword_at L.own o k k0 k1)
          generalize (tO j : Int) + 1 = zj at *
          generalize (tO kc : Int) + 1 = zk at *
          have k23 : (kc : Int) < 23 := by omega
          go_region_held3 (fun w' => w'.cell? ⟨gp, op + j, none⟩ = some (.int .i64 zj) ∧ w'.cell? ⟨q, 0, none⟩ = some (.int .i64 (kc : Int)) ∧ w'.cell? ⟨gp, op + kc, none⟩ = some (.int .i64 zk))
            (first | exact c5 | exact ⟨CJ.out _ (S1.out.ext ((Ext.refl _).drew)), (B1.out.ext ((Ext.refl _).drew)).cell 0, CK2.out _ (S1.out.ext ((Ext.refl _).drew))⟩ | exact ⟨CJ.out _ S1.out, B1.out.cell 0, CK2.out _ S1.out⟩)
            ((go_at_call 122; refine (SC.out _ ((Ext.refl _).drew)).mono ?_; rintro e w5 ⟨rfl, L5, K5⟩; have c5 := And.intro (CJ.out _ L5) (And.intro ((blk_hk (B1.out.ext ((Ext.refl _).drew)) K5 (by decide)).cell 0) (CK2.out _ L5))))
          have B5 := Lib.hid (blk_hk (B1.out.ext ((Ext.refl _).drew)) K5 (by decide))
          have S5 := Lib.hid L5
          clear c5 K5 L5 B1 S1 SC X1
          go_upto_region 15 with (fail)
          go_region_held3 (fun w' => w'.cell? ⟨gp, op + j, none⟩ = some (.int .i64 zj) ∧ w'.cell? ⟨q, 3, none⟩ = some (.bool (firstT j).fin))
            (first | exact c6 | exact ⟨CJ.out _ (S5.out.ext ((Ext.refl _).drew)), (B5.out.ext ((Ext.refl _).drew)).cell 3⟩ | exact ⟨CJ.out _ S5.out, B5.out.cell 3⟩)
            ((go_at_call 123; refine (SM.out _ (S5.out.ext ((Ext.refl _).drew)) _).mono ?_; rintro e w6 ⟨rfl, L6, K6⟩; have c6 := And.intro (CJ.out _ L6) ((blk_hk (B5.out.ext ((Ext.refl _).drew)) K6 (by decide)).cell 3)))
          have B6 := Lib.hid (blk_hk (B5.out.ext ((Ext.refl _).drew)) K6 (by decide))
          have S6 := Lib.hid L6
          clear c6 K6 L6 B5 S5 SM CK2
          have b4 := B6.out.cell 4
          have b4l := B6.out.lt
          simp only [List.getElem?_toArray, List.getElem?_cons_zero, List.getElem?_cons_succ] at b4
          go_big_wp2_with fail
          clear b4 b4l
          rename World => wp
          go_loopw [88] (fun iv wq => ∃ m : Nat, m ≤ (firstT j).F.length ∧ iv = .int .i64 m ∧ LS2 W0 wq hp W0.heap.size (.slice (some ⟨gp, op, none⟩) 23 c) ∧ Blk wq q 49 #[.int .i64 (kc : Int), .int .i64 (firstT j).fmt, .int .i64 (firstT j).hash, .bool (firstT j).fin, .slice AF' (firstT j).F.length cF, .string (firstT j).B]) (fun iv _ => (firstT j).F.length - (intOf iv).toNat)
          case atStart => exact ⟨0, by omega, rfl, S6.out, B6.out⟩
          case round =>
            clear S6 B6
            obtain ⟨m, hm, rfl, L7, b7⟩ := hrel
            have S7 := Lib.hid L7
            have B7 := Lib.hid b7
            have XA := Lib.hid (X0.out.trans L7.x)
            clear L7 b7
            by_cases mlt : m < (firstT j).F.length
            · obtain ⟨b, off, rfl, hb, dd⟩ := Row.at_ HVj.out m mlt
              have e0 : w.cell? ⟨b, off + m * 2, none⟩ = some (.bool (vAt (firstT j).F m).obj) := dd 0 (by omega)
              have e1 : w.cell? ⟨b, off + m * 2 + 1, none⟩ = some (.int .i64 (vAt (firstT j).F m).n) := dd 1 (by omega)
              replace e0 := (XA.out.below.cell (p := ⟨b, off + m * 2, none⟩) hb).trans e0
              replace e1 := (XA.out.below.cell (p := ⟨b, off + m * 2 + 1, none⟩) hb).trans e1
              have hb2 : b < wr.heap.size := Nat.lt_of_lt_of_le hb XA.out.below.size
              have fv := first_vals j hlt2 m mlt
              have hf3 : (firstT j).fmt ≠ 3 := by have := first_facts j hlt2; omega
              have hW : m < tW j := by unfold tW; rw [if_neg hf3]; exact mlt
              have mI : (m : Int) < ((firstT j).F.length : Int) := by omega
              have SFm := Lib.hid (fun y L => SF.out y L hf3 m hW)
              clear dd SF SB
              generalize vAt (firstT j).F m = f at *
              go_upto_region 19 with (fail)
              refine wp_name (fun W2 h2 => ?_)
              have BV := Lib.hid (Blk.new' h2)
              have X2 := (Ext.refl wr).alloc' h2
              have S8 := Lib.hid (S7.out.ext X2)
              have B8 := Lib.hid (B7.out.ext X2)
              clear h2 e0 e1 hb hb2 S7 B7 XA
              generalize wr.heap.size = q2 at *
              go_region_held3 (fun w' => w'.cell? ⟨gp, op + j, none⟩ = some (.int .i64 zj) ∧ w'.cell? ⟨q2, 0, none⟩ = some (.bool f.obj) ∧ w'.cell? ⟨q2, 1, none⟩ = some (.int .i64 f.n))
                (first | exact c8 | exact ⟨CJ.out _ (S8.out.ext X7), (BV.out.ext X7).cell 0, (BV.out.ext X7).cell 1⟩ | exact ⟨CJ.out _ (S8.out.ext ((Ext.refl _).drew)), (BV.out.ext ((Ext.refl _).drew)).cell 0, (BV.out.ext ((Ext.refl _).drew)).cell 1⟩ | exact ⟨CJ.out _ S8.out, BV.out.cell 0, BV.out.cell 1⟩)
                (first
                  | (go_at_call 124; refine (SFm.out _ (S8.out.ext X7) xw ⟨xw0, xw1⟩).mono ?_; rintro e w8 ⟨rfl, L8, K8⟩; have c8 := And.intro (CJ.out _ L8) (And.intro ((blk_hk (BV.out.ext X7) K8 (by decide)).cell 0) ((blk_hk (BV.out.ext X7) K8 (by decide)).cell 1)))
                  | (go_at_call 125; refine (LW.out _ (S8.out.ext ((Ext.refl _).drew)) f.obj f.n fv.1 (by omega)).mono ?_; rintro e w7 ⟨⟨xw, rfl, xw0, xw1⟩, x7⟩; have X7 := ((Ext.refl _).drew).trans x7))
              have S9 := Lib.hid L8
              have B9 := Lib.hid (blk_hk (B8.out.ext X7) K8 (by decide))
              clear c8 L8 K8 X7 BV B8 S8 X2
              go_big_wp2_with fail
              go_roundw
              case rel => exact ⟨m + 1, by omega, by go_num, S9.out, B9.out⟩
              case measure => simp [intOf]; omega
            · obtain rfl : m = (firstT j).F.length := by omega
              have b5 := B7.out.cell 5
              have b5l := B7.out.lt
              simp only [List.getElem?_toArray, List.getElem?_cons_zero, List.getElem?_cons_succ] at b5
              clear XA LW SF
              go_big_wp2_with fail
              clear b5 b5l
              rename World => wt
              go_loopw [107] (fun iv wq => ∃ m : Nat, m ≤ (firstT j).B.size ∧ iv = .int .i64 m ∧ LS2 W0 wq hp W0.heap.size (.slice (some ⟨gp, op, none⟩) 23 c) ∧ Blk wq q 49 #[.int .i64 (kc : Int), .int .i64 (firstT j).fmt, .int .i64 (firstT j).hash, .bool (firstT j).fin, .slice AF' (firstT j).F.length cF, .string (firstT j).B]) (fun iv _ => (firstT j).B.size - (intOf iv).toNat)
              case atStart => exact ⟨0, by omega, rfl, S7.out, B7.out⟩
              case round =>
                clear S7 B7
                obtain ⟨m, hm, rfl, L7, b7⟩ := hrel
                have S7 := Lib.hid L7
                have B7 := Lib.hid b7
                clear L7 b7
                by_cases mlt : m < (firstT j).B.size
                · have mI : (m : Int) < ((firstT j).B.size : Int) := by omega
                  go_upto_region 24 with (fail)
                  have hf3 : (firstT j).fmt = 3 := by have := first_facts j hlt2; omega
                  have hW : m < 4 * tW j := by unfold tW; rw [if_pos hf3]; omega
                  have SBm := Lib.hid (fun y L => SB.out y L hf3 m hW)
                  clear SB hf3 hW
                  go_region_held3 (fun w' => w'.cell? ⟨gp, op + j, none⟩ = some (.int .i64 zj) ∧ w'.cell? ⟨q, 5, none⟩ = some (.string (firstT j).B))
                    (first | exact c9 | exact ⟨CJ.out _ (S7.out.ext ((Ext.refl _).drew)), (B7.out.ext ((Ext.refl _).drew)).cell 5⟩ | exact ⟨CJ.out _ S7.out, B7.out.cell 5⟩)
                    ((go_at_call 126; refine (SBm.out _ (S7.out.ext ((Ext.refl _).drew)) _ (byte_bd _)).mono ?_; rintro e w9 ⟨rfl, L9, K9⟩; have c9 := And.intro (CJ.out _ L9) ((blk_hk (B7.out.ext ((Ext.refl _).drew)) K9 (by decide)).cell 5)))
                  have S9 := Lib.hid L9
                  have B9 := Lib.hid (blk_hk (B7.out.ext ((Ext.refl _).drew)) K9 (by decide))
                  clear c9 L9 K9 B7 S7
                  go_big_wp2_with fail
                  go_roundw
                  case rel => exact ⟨m + 1, by omega, by go_num, S9.out, B9.out⟩
                  case measure => simp [intOf]; omega
                · obtain rfl : m = (firstT j).B.size := by omega
                  go_big_wp2_with fail
                  go_roundw
                  case rel => exact ⟨j + 1, by omega, by go_num, S7.out⟩
                  case measure => simp [intOf]; omega
        · obtain rfl : j = 23 := by omega
          have O := Lib.hid LL.out.own
          have XE := Lib.hid XA.out
          clear LL XA
          go_big_wp2_with fail
          go_ret3
          exact ⟨⟨hp, A, c, rfl, O.out.base X0.out.below.size⟩, XE.out⟩
end Go.Proofs.YtjpalcejmloocaaGreat.World
