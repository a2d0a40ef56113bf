/-
  simple.closure: a block of a frame.
-/
import Derived.Test.YtnhijjcplnomgaaGreatOwn4
import Derived.Test.YtnhijjcplnomgaaGreatSimpleDo
namespace Go.Proofs.YtnhijjcplnomgaaGreat.World
open Go.RowKit Go.Proofs.YtnhijjcplnomgaaGreat.Plain
set_option linter.unusedVariables false
attribute [local go_sem ↓] Go.wp_at_zero Go.wp_at_succ
namespace MS
def clV (id a t p : Int) (j : Nat) : PV := if j = 0 then objV id else if j = 1 then num a else if j = 2 then num t else num p
/-- a new block, j of its fields set -/
def clS (S : MS) (f : Nat → PV) : Nat → MS
  | 0 => S.block0
  | j + 1 => (clS S f j).set S.L.length j (f j)
theorem clS_ok {S : MS} (h : S.Std) (hl : S.last < 3000) (f : Nat → PV) (hf : ∀ j, j < 4 → S.block0.may (f j) = true) : ∀ j, j ≤ 4 →
    Own4 (S.clS f j) S.L.length (fun k => if k < j then f k else nilV) ∧ Sim S.block0 (S.clS f j) ∧ (∀ k q : Int, k ≠ S.L.length → (S.clS f j).get k q = S.get k q) ∧ (j < 4 → (S.clS f j).setOK S.L.length j (f j) = true) := by
  intro j
  induction j with
  | zero =>
    intro _
    obtain ⟨_, _, _, o0⟩ := h.block0 hl
    refine ⟨?_, Sim.refl _, fun k q hk => get_add h.wf hk q, fun _ => (o0.set (l := 0) (by omega) (hf 0 (by omega))).1⟩
    have e : (fun k => if k < 0 then f k else nilV) = (fun _ : Nat => nilV) := by funext k; rw [if_neg (by omega)]
    rw [e]; exact o0
  | succ j ih =>
    intro hj
    obtain ⟨o, m, g, _⟩ := ih (by omega)
    have hv : ∀ q, q < 4 → (S.clS f j).may (f q) = true := fun q hq => by rw [m.may]; exact hf q hq
    obtain ⟨_, o2, m2, g2⟩ := o.set (l := j) (by omega) (hv j (by omega))
    have e : (fun k => if k = j then f j else if k < j then f k else nilV) = (fun k : Nat => if k < j + 1 then f k else nilV) := by
      funext k
      by_cases h1 : k = j
      · subst h1; rw [if_pos rfl, if_pos (by omega)]
      · by_cases h2 : k < j
        · rw [if_neg h1, if_pos h2, if_pos (by omega)]
        · rw [if_neg h1, if_neg h2, if_neg (by omega)]
    rw [e] at o2
    refine ⟨o2, m.trans m2, fun k q hk => (g2 k q hk).trans (g k q hk), fun h4 => ?_⟩
    have hv2 : (S.clS f (j + 1)).may (f (j + 1)) = true := by
      show ((S.clS f j).set S.L.length j (f j)).may _ = true
      rw [m2.may]; exact hv _ h4
    exact (o2.set (l := j + 1) h4 hv2).1
theorem clS_phase {S : MS} (f : Nat → PV) : ∀ j, (S.clS f j).phase = S.phase
  | 0 => rfl
  | j + 1 => by
    show ((S.clS f j).set S.L.length j (f j)).phase = _
    have : ∀ (T : MS) (i j : Int) (v : PV), (T.set i j v).phase = T.phase := fun T i j v => by unfold MS.set; split <;> rfl
    rw [this]; exact clS_phase f j
end MS
theorem Mov.of_keep {w w' : World} {F : Nat → Prop} (k : Keep F w w') : Mov F F w w' := ⟨k, fun _ h => .inl h⟩
section
variable {w w' w2 : World} {F F' F2 : Nat → Prop} {m : Nat} {S S' : MS} {X : MX}
set_option maxRecDepth 100000 in
set_option maxHeartbeats 2000000 in
theorem sclosure (h : M w F m S) (st : S.Std) (hl : S.last < 3000) {id a t p : Int} (hid : S.isFrame id = true) (hp : S.get id 1 = num p) (hp2 : 0 ≤ p ∧ p ≤ 4000) (ha : 0 ≤ a ∧ a ≤ t ∧ t ≤ 8) :
    Calls Tryz.prog 50 #[.pointer (some ⟨m, 0, none⟩), .int .i64 id, .int .i64 a, .int .i64 t] w fun e w' => e = .returned (.tuple #[.agg #[.bool true, .int .i64 S.L.length], .bool true]) ∧ Goes F m (S.clS (MS.clV id a t (p + 1)) 4) w w' := by
  obtain ⟨bt, R⟩ := h.rd
  have C0 := Lib.hid R.c0
  have LT := Lib.hid R.lt
  have CS := Lib.hid (fun W k => tspecial (w := W) k (.pointer (some ⟨bt, 0, none⟩)))
  obtain ⟨c1, c2, c3⟩ := st.cls 13 (by omega) (by omega)
  have c2 : S.madeN 13 = 4 := c2
  have c3 : S.madeF 13 = 1 := c3
  have CM := Lib.hid (fun W [x : IsExt w W] => mmade (h.ext x.out) 13)
  rw [c2, c3] at CM
  have ph : S.phase ≠ 1 := by rw [st.ph]; decide
  obtain ⟨bo, be, bi, _⟩ := st.block0 hl
  have CK := Lib.hid (fun W [x : IsExt w W] => mmake (h.ext x.out) ph 13 0)
  rw [bo, be, bi] at CK
  have hlt := MS.has_lt (MS.isFrame_has hid)
  have hmay : ∀ j, j < 4 → S.block0.may (MS.clV id a t (p + 1) j) = true := fun j hj => by
    unfold MS.clV
    split
    · exact MS.has_add_old st.wf (MS.isFrame_has hid)
    · split
      · exact MS.fits_small (n := a) (by omega)
      · split
        · exact MS.fits_small (n := t) (by omega)
        · exact MS.fits_small (n := p + 1) (by omega)
  have OKS := Lib.hid (MS.clS_ok st hl (MS.clV id a t (p + 1)) hmay)
  have gp : S.block0.get id 1 = num p := (MS.get_add st.wf (by omega) 1).trans hp
  have HG := Lib.hid gp
  have HF := Lib.hid h.lt
  have hlen := h.wf.len
  have hlast := h.wf.last
  have PH : Hid (∀ j, (S.clS (MS.clV id a t (p + 1)) j).phase ≠ 1) := Lib.hid (fun j => by rw [MS.clS_phase]; exact ph)
  obtain ⟨a0, a1, a2⟩ := ha
  obtain ⟨p0, p1⟩ := hp2
  have d1 : decide (8 < a) = false := decide_eq_false (by omega)
  have d2 : decide (8 < t) = false := decide_eq_false (by omega)
  have d3 : decide (t < a) = false := decide_eq_false (by omega)
  have l0 := R.lt
  have k0 := R.c0
  clear h st hl hid hp hmay R c1 c2 c3 ph bo be bi gp hlt
  have e0 : S.clS (MS.clV id a t (p + 1)) 0 = S.block0 := rfl
  have ES : Hid (∀ j : Nat, (S.clS (MS.clV id a t (p + 1)) j).set S.L.length j (MS.clV id a t (p + 1) j) = S.clS (MS.clV id a t (p + 1)) (j + 1)) := Lib.hid (fun j => rfl)
  generalize hcl : S.clS (MS.clV id a t (p + 1)) = cl at *
  generalize S.L.length = n at *
  go_enter Tryz.func50, Tryz.ntmps50
  go_wp2_with (go_at_call 192; refine (CS.out _ _).mono ?_; rintro e w1 ⟨rfl, x1⟩)
  have B8 := (Blk.new w 40 #[.bool false, .int .i64 0]).ext x1
  have i1 : IsExt w w1 := ⟨(is_ext w _).trans x1⟩
  clear x1 CS k0
  refine (CM.out w1).mono ?_
  rintro e w2 ⟨rfl, x2⟩
  replace B8 := B8.ext x2
  have i2 : IsExt w w2 := ⟨i1.out.trans x2⟩
  clear x2 CM i1
  go_wp2_with fail
  refine (CK.out w2).mono ?_
  rintro e w3 ⟨rfl, gg⟩
  obtain ⟨F1, m3, v3⟩ := gg
  have nF8 : ¬ F w.heap.size := fun hf => by have := HF.out _ hf; omega
  obtain ⟨b8, nF1⟩ := v3.blk B8 nF8
  have V3 := Lib.hid ((Mov.of_ext i2.out).trans v3)
  have CP := Lib.hid (fun W [x : IsExt w3 W] => mget (m3.ext x.out) id 1)
  rw [HG.out] at CP
  unfold val num at CP
  have i3 : IsExt w3 w3 := ⟨Ext.refl _⟩
  have lw : w.heap.size < w3.heap.size := b8.lt
  clear v3 B8 CK HG i2 c2 c3
  go_wp2_with fail
  refine (CP.out _).mono ?_
  rintro e w4 ⟨rfl, x4⟩
  have B8 := Lib.hid (b8.ext x4)
  have M4 := Lib.hid (m3.ext x4)
  have V4 := Lib.hid (V3.out.ext x4)
  have lw4 : w.heap.size < w4.heap.size := B8.out.lt
  clear x4 CP i3 b8 m3 V3
  go_wp2_with fail
  refine wp_name (fun w5 hW => ?_)
  have x5 : Ext w4 w5 := by rw [hW]; exact is_ext _ _
  have BS : Hid (Blk w5 w4.heap.size 40 #[.bool true, .int .i64 id, .bool false, .int .i64 a, .bool false, .int .i64 t, .bool false, .int .i64 (p + 1)]) := Lib.hid (by rw [hW]; exact Blk.new _ _ _)
  replace B8 := Lib.hid (B8.out.ext x5)
  have M5 := Lib.hid (M4.out.ext x5)
  have V5 := Lib.hid (V4.out.ext x5)
  have nS1 : ¬ F1 w4.heap.size := fun hf => by have := M4.out.lt _ hf; omega
  have NS := Lib.hid nS1
  have N8 := Lib.hid nF1
  clear hW x5 M4 V4 nS1 nF1 nF8
  generalize w4.heap.size = gs at *
  generalize hg8 : w.heap.size = g8 at *
  go_loopw [69] (fun jv wr => ∃ j : Nat, j ≤ 4 ∧ jv = .int .i64 j ∧ M wr F1 m (cl j) ∧ Keep F1 w5 wr) (fun jv _ => 4 - (intOf jv).toNat)
  case atStart => exact ⟨0, by omega, rfl, by rw [e0]; exact M5.out, Keep.refl _ _⟩
  case round =>
    obtain ⟨j, hj, rfl, mj, kj⟩ := hrel
    have bs := BS.out.keep kj NS.out
    have MJ := Lib.hid mj
    have KJ := Lib.hid kj
    by_cases hlt : j < 4
    · have ok := (OKS.out j (by omega)).2.2.2 hlt
      have hph := PH.out j
      have CW := Lib.hid (fun W [x : IsExt wr W] => mset (mj.ext x.out) hph n j (MS.clV id a t (p + 1) j))
      rw [ok] at CW
      have es := ES.out j
      rw [es] at CW
      obtain ⟨q1, q2, q3⟩ := bs.rules
      have lS := bs.lt
      clear mj kj ok es hph
      rcases (show j = 0 ∨ j = 1 ∨ j = 2 ∨ j = 3 by omega) with rfl | rfl | rfl | rfl
      all_goals
        have v1 := q1 0
        unfold MS.clV val num objV at CW
        go_wp2_with fail
        refine (CW.out _).mono ?_
        rintro e w6 ⟨rfl, m6, k6⟩
        have M6 := Lib.hid m6
        have K6 := Lib.hid ((KJ.out.ext ((Ext.refl wr).alloc _)).trans k6)
        clear m6 k6 CW MJ KJ bs q1 q2 q3 v1
        go_wp2_with fail
        go_roundw
        case rel => exact ⟨_, by omega, by go_num, M6.out, K6.out⟩
        case measure => simp [intOf]
    · obtain rfl : j = 4 := by omega
      obtain ⟨r1, r2, r3⟩ := (B8.out.keep kj N8.out).rules
      clear mj kj bs BS
      go_wp2_with fail
      have V := V5.out.trans (Mov.of_keep KJ.out)
      refine bodyPost_ret (v := .tuple #[.agg #[.bool true, .int .i64 n], .bool true]) (by simp [results, Tryz.results50, go_sem, r1]) rfl ⟨rfl, F1, ?_, ?_⟩
      · exact MJ.out.far (((Keep.refl (· = g8) wr).setCell (p := ⟨g8, 0, none⟩) rfl _).setCell (p := ⟨g8, 1, none⟩) rfl _) (fun j e hf => N8.out (e ▸ hf))
      · exact ⟨(V.keep.setNew (p := ⟨g8, 0, none⟩) (show w.heap.size ≤ g8 by omega) _).setNew (p := ⟨g8, 1, none⟩) (show w.heap.size ≤ g8 by omega) _, V.new⟩
set_option maxRecDepth 100000 in
set_option maxHeartbeats 2000000 in
theorem sclosure_no (h : M w F m S) (st : S.Std) (id : Int) {a t : Int} (ha : 0 ≤ a ∧ a ≤ 100 ∧ 0 ≤ t ∧ t ≤ 100) (hn : ¬ (a ≤ t ∧ t ≤ 8)) :
    Calls Tryz.prog 50 #[.pointer (some ⟨m, 0, none⟩), .int .i64 id, .int .i64 a, .int .i64 t] w fun e w' => e = .returned (.tuple #[.agg #[.bool false, .int .i64 0], .bool false]) ∧ Ext w w' := by
  obtain ⟨bt, R⟩ := h.rd
  have CS := Lib.hid (fun W k => tspecial (w := W) k (.pointer (some ⟨bt, 0, none⟩)))
  obtain ⟨c1, c2, c3⟩ := st.cls 13 (by omega) (by omega)
  have c2 : S.madeN 13 = 4 := c2
  have c3 : S.madeF 13 = 1 := c3
  have CM := Lib.hid (fun W [x : IsExt w W] => mmade (h.ext x.out) 13)
  rw [c2, c3] at CM
  obtain ⟨a0, a1, t0, t1⟩ := ha
  have l0 := R.lt
  have k0 := R.c0
  clear h st R c1 c2 c3
  rcases (show 8 < a ∨ (¬ 8 < a ∧ 8 < t) ∨ (¬ 8 < a ∧ ¬ 8 < t ∧ t < a) by omega) with d1 | ⟨d1, d2⟩ | ⟨d1, d2, d3⟩
  all_goals
    clear hn
    go_enter Tryz.func50, Tryz.ntmps50
    go_wp2_with (go_at_call 192; refine (CS.out _ _).mono ?_; rintro e w1 ⟨rfl, x1⟩)
    have B8 := (Blk.new w 40 #[.bool false, .int .i64 0]).ext x1
    have i1 : IsExt w w1 := ⟨(is_ext w _).trans x1⟩
    clear x1 CS k0
    refine (CM.out w1).mono ?_
    rintro e w2 ⟨rfl, x2⟩
    replace B8 := B8.ext x2
    have X2 := Lib.hid (i1.out.trans x2)
    obtain ⟨r1, r2, r3⟩ := B8.rules
    clear x2 CM i1 B8
    go_wp2_with fail
    refine bodyPost_ret (v := .tuple #[.agg #[.bool false, .int .i64 0], .bool false]) (by simp [results, Tryz.results50, go_sem, r1]) rfl ⟨rfl, ?_⟩
    exact (X2.out.setNew (p := ⟨w.heap.size, 0, none⟩) (Nat.le_refl _) _).setNew (p := ⟨w.heap.size, 1, none⟩) (Nat.le_refl _) _
end
end Go.Proofs.YtnhijjcplnomgaaGreat.World
