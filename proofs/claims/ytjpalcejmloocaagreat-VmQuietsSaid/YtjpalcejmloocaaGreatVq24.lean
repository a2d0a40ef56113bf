/-
  Read2, Read3, Reach3, Reach4, as one text (a claim has at most 60 files).
-/
import Derived.Test.YtjpalcejmloocaaGreatVq23
import Derived.Test.YtjpalcejmloocaaGreatVq05
import Derived.Test.YtjpalcejmloocaaGreatVq22
namespace Go.Proofs.YtjpalcejmloocaaGreat.World
open Go.RowKit Go.Proofs.YtjpalcejmloocaaGreat.Plain
set_option linter.unusedVariables false
attribute [local go_sem ↓] Go.wp_at_zero Go.wp_at_succ
theorem or8 (v x : Int) (v0 : 0 ≤ v) (v1 : v < 16777216) (x0 : 0 ≤ x) (x1 : x < 256) : bits .or .u32 (v * 256) x = v * 256 + x := by
  have h := u32_or_sum x v 8 x0 (by omega) v0 (by omega) (by omega)
  have e : v * ((2 ^ 8 : Nat) : Int) = v * 256 := by omega
  rw [e] at h
  obtain ⟨n, rfl⟩ := Int.eq_ofNat_of_zero_le x0
  obtain ⟨m, hm⟩ := Int.eq_ofNat_of_zero_le (show 0 ≤ v * 256 by omega)
  rw [hm] at h ⊢
  have h' := u32_or_nat n m (by omega) (by omega)
  have h'' := u32_or_nat m n (by omega) (by omega)
  rw [Nat.or_comm] at h''
  rw [h'', ← h', h]
  omega
theorem beV_push (l : List Int) (x : Int) : beV (l ++ [x]) = beV l * 256 + x := by unfold beV; rw [List.foldl_append]; rfl
theorem take_len4 (s : RdS) : (takeR 4 s).1.length = 4 := by
  unfold takeR
  split
  · split
    · show (s.b.take 4).length = 4
      rw [List.length_take]; omega
    · rfl
  · rfl
theorem okB_take {n : Nat} {s : RdS} (h : okB s.b) : okB (takeR n s).1 ∧ okB (takeR n s).2.b := by
  have hz : okB (List.replicate (min n 4) (0 : Int)) := fun x hx => by rw [(List.mem_replicate.1 hx).2]; omega
  unfold takeR
  split
  · split
    · exact ⟨fun x hx => h x (List.mem_of_mem_take hx), fun x hx => h x (List.mem_of_mem_drop hx)⟩
    · exact ⟨hz, h⟩
  · exact ⟨hz, h⟩
theorem beV_in' : ∀ (n : Nat) (l : List Int), l.length = n → okB l → 0 ≤ beV l ∧ beV l < 256 ^ n
  | 0, l, hl, _ => by
    rw [List.eq_nil_of_length_eq_zero hl]
    exact ⟨Int.le_refl _, by decide⟩
  | n + 1, l, hl, h => by
    rcases List.eq_nil_or_concat l with rfl | ⟨l', x, rfl⟩
    · simp at hl
    · rw [List.concat_eq_append] at *
      obtain ⟨i0, i1⟩ := beV_in' n l' (by simpa using hl) (fun y hy => h y (by simp [hy]))
      obtain ⟨x0, x1⟩ := h x (by simp)
      rw [beV_push, Int.pow_succ]
      omega
theorem beV_in (l : List Int) (h : okB l) : 0 ≤ beV l ∧ beV l < 256 ^ l.length := beV_in' _ l rfl h
theorem beV_take {l : List Int} (h : okB l) (hl : l.length = 4) {i : Nat} (hi : i < 4) : 0 ≤ beV (l.take i) ∧ beV (l.take i) < 16777216 := by
  obtain ⟨a, b⟩ := beV_in (l.take i) (fun x hx => h x (List.mem_of_mem_take hx))
  have e : (l.take i).length = i := by rw [List.length_take]; omega
  rw [e] at b
  refine ⟨a, ?_⟩
  rcases (show i = 0 ∨ i = 1 ∨ i = 2 ∨ i = 3 by omega) with rfl | rfl | rfl | rfl <;> omega
theorem numR_in {s : RdS} (h : okB s.b) : 0 ≤ (numR s).1 ∧ (numR s).1 < 4294967296 := by
  obtain ⟨a, b⟩ := beV_in _ (okB_take (n := 4) h).1
  rw [take_len4] at b
  exact ⟨a, by unfold numR; omega⟩
theorem okB_num {s : RdS} (h : okB s.b) : okB (numR s).2.b := (okB_take (n := 4) h).2
section
variable {w w0 : World} {g : Nat} {s : RdS}
set_option maxRecDepth 100000 in
set_option maxHeartbeats 1000000 in
theorem rnumber_ (h : RdAt w0 w g s) (hb : okB s.b) : Calls Tryz.prog 72 #[.pointer (some ⟨g, 0, none⟩)] w fun e w' => e = .returned (.int .u32 (numR s).1) ∧ RdAt w0 w' g (numR s).2 ∧ Keep (· = g) w w' := by
  have CT := Lib.hid (fun W2 (z : Ext w W2) => take_ (h.ext z) 4 (by omega))
  have OK := Lib.hid (okB_take (n := 4) hb).1
  have LN := Lib.hid (take_len4 s)
  have EN : Hid ((numR s).1 = beV (takeR 4 s).1 ∧ (numR s).2 = (takeR 4 s).2) := Lib.hid ⟨rfl, rfl⟩
  clear h hb
  generalize (takeR 4 s).1 = l at *
  generalize (takeR 4 s).2 = s2 at *
  generalize numR s = ns at *
  rw [LN.out] at CT
  go_enter Tryz.func72, Tryz.ntmps72
  go_wp2_with (go_at_call 69; refine (CT.out _ (is_ext _ _)).mono ?_; rintro e w2 ⟨v, rfl, hr, hd, k2⟩; obtain ⟨A, c, ev, _⟩ := Row.form hr; subst ev; have HR := Lib.hid hr; have HD := Lib.hid hd; have K2 := Lib.hid k2; clear hr hd k2)
  go_loopw [3, 5, 9] (fun u3 u5 iv wr => ∃ i : Nat, i ≤ 4 ∧ iv = .int .i64 i ∧ u3 = .int .u32 (beV (l.take i)) ∧ Ext w2 wr) (fun _ _ iv _ => 4 - (intOf iv).toNat)
  case atStart => exact ⟨0, by omega, rfl, rfl, Ext.refl _⟩
  case round =>
    obtain ⟨i, hi, rfl, rfl, xr⟩ := hrel
    by_cases hlt : i < 4
    · have iI : (i : Int) < 4 := by omega
      have iI' : (i : Int) < ((4 : Nat) : Int) := by omega
      obtain ⟨b, off, rfl, hbb, hc⟩ := Row.at_ (HR.out.ext xr) i hlt
      have c0 : wr.cell? ⟨b, off + i * 1, none⟩ = some (.int .u8 (l.getD i 0)) := hc 0 (by omega)
      rw [Nat.mul_one] at c0
      have VI := beV_take OK.out LN.out hlt
      have XI := OK.out (l.getD i 0) (by rw [List.getD_eq_getElem?_getD, List.getElem?_eq_getElem (by rw [LN.out]; exact hlt)]; exact List.getElem_mem _)
      have SU : Hid (beV (l.take (i + 1)) = beV (l.take i) * 256 + l.getD i 0) := Lib.hid (by
        have hl : i < l.length := by rw [LN.out]; exact hlt
        rw [List.take_succ_eq_append_getElem hl, beV_push, List.getD_eq_getElem?_getD, List.getElem?_eq_getElem hl]; rfl)
      have XR := Lib.hid xr
      clear hc xr
      generalize beV (l.take i) = v at *
      generalize l.getD i 0 = y at *
      obtain ⟨v0, v1⟩ := VI
      obtain ⟨y0, y1⟩ := XI
      have ho := or8 v y v0 v1 y0 y1
      go_wp2_with fail
      go_roundw
      case rel => exact ⟨i + 1, by omega, by go_num, by rw [SU.out], XR.out⟩
      case measure => simp [intOf] <;> omega
    · obtain rfl : i = 4 := by omega
      have XR := Lib.hid xr
      have EV : Hid (beV (l.take 4) = beV l) := Lib.hid (by rw [List.take_of_length_le (by rw [LN.out]; omega)])
      clear xr
      go_wp2_with fail
      go_ret
      obtain ⟨e1, e2⟩ := EN.out
      exact ⟨by rw [e1, ← EV.out]; rfl, by rw [e2]; exact HD.out.ext XR.out, Keep.ext K2.out XR.out⟩
end
end Go.Proofs.YtjpalcejmloocaaGreat.World
namespace Go.Proofs.YtjpalcejmloocaaGreat.World
open Go.RowKit Go.Proofs.YtjpalcejmloocaaGreat.Plain
set_option linter.unusedVariables false
attribute [local go_sem ↓] Go.wp_at_zero Go.wp_at_succ
def shortR (p : Int) (s : RdS) : RdS := if (s.b.length : Int) < p then wrongR 3 s else s
def countR (each : Int) (s : RdS) : Int × RdS := if (shortR ((numR s).1 * each) (numR s).2).e = 0 then ((numR s).1, shortR ((numR s).1 * each) (numR s).2) else (0, shortR ((numR s).1 * each) (numR s).2)
def valR (s : RdS) : PV × RdS := (if isIntB (numR s).1 = true then ⟨false, intOfW (numR s).1⟩ else ⟨true, refOfW (numR s).1⟩, (numR s).2)
theorem okB_wrong {x : Int} {s : RdS} (h : okB s.b) : okB (wrongR x s).b := by unfold wrongR; split <;> exact h
theorem okB_short {p : Int} {s : RdS} (h : okB s.b) : okB (shortR p s).b := by unfold shortR; split; exact okB_wrong h; exact h
theorem okB_count {each : Int} {s : RdS} (h : okB s.b) : okB (countR each s).2.b := by unfold countR; split <;> exact okB_short (okB_num h)
theorem okB_val {s : RdS} (h : okB s.b) : okB (valR s).2.b := okB_num h
theorem countR_in {each : Int} {s : RdS} (h : okB s.b) : 0 ≤ (countR each s).1 ∧ (countR each s).1 < 4294967296 := by
  unfold countR
  split
  · exact numR_in h
  · exact ⟨Int.le_refl _, by show (0 : Int) < 4294967296; decide⟩
theorem RdAt.far {w0 w : World} {g q : Nat} {s : RdS} (h : RdAt w0 w g s) (hn : q ≠ g) (hq : w0.heap.size ≤ q) (i : Nat) (u : Value) : RdAt w0 (w.setCell ⟨q, i, none⟩ u) g s := by
  obtain ⟨v, b, r⟩ := h.ex
  exact ⟨⟨v, b.far (p := ⟨q, i, none⟩) (fun e => hn e.symm) _, r⟩, h.x.setNew (p := ⟨q, i, none⟩) hq _, h.hg⟩
section
variable {w w0 : World} {g : Nat} {s : RdS}
set_option maxRecDepth 100000 in
set_option maxHeartbeats 1000000 in
theorem rcount_ (h : RdAt w0 w g s) (hb : okB s.b) (each : Int) (e1 : 1 ≤ each) (e8 : each ≤ 8) : Calls Tryz.prog 70 #[.pointer (some ⟨g, 0, none⟩), .int .i64 each] w fun e w' => e = .returned (.int .i64 (countR each s).1) ∧ RdAt w0 w' g (countR each s).2 ∧ Keep (· = g) w w' := by
  have CN := Lib.hid (fun W2 (z : Ext w W2) => rnumber_ (h.ext z) hb)
  obtain ⟨n0, n1⟩ := numR_in hb
  obtain ⟨p, hp⟩ : ∃ p, (numR s).1 * each = p := ⟨_, rfl⟩
  have EC : Hid (countR each s = if (shortR p (numR s).2).e = 0 then ((numR s).1, shortR p (numR s).2) else (0, shortR p (numR s).2)) := Lib.hid (by rw [← hp]; rfl)
  have p0 : 0 ≤ p := by rw [← hp]; exact Int.mul_nonneg n0 (by omega)
  have p1 : p < 34359738368 := by
    rw [← hp]
    have : (numR s).1 * each ≤ (numR s).1 * 8 := Int.mul_le_mul_of_nonneg_left e8 n0
    omega
  clear h hb
  generalize countR each s = cs at *
  generalize (numR s).1 = n at *
  generalize (numR s).2 = s2 at *
  have hpw : n * each = p := hp
  go_enter Tryz.func70, Tryz.ntmps70
  go_upto_region 2 with (go_at_call 72; refine (CN.out _ (is_ext _ _)).mono ?_; rintro e w2 ⟨rfl, hd, k2⟩; have HD := Lib.hid hd; have K2 := Lib.hid k2; clear hd k2)
  obtain ⟨v, bv, rv⟩ := HD.out.ex
  obtain ⟨A, c, ev, lc, lm⟩ := Row.form rv
  subst ev
  obtain ⟨r1, r2, r3⟩ := bv.rules
  have CW := Lib.hid (fun W3 (z : Ext w2 W3) => wrong_ (HD.out.ext z) 3)
  clear bv rv CN
  obtain ⟨sb, se⟩ := s2
  simp only at lc r1
  by_cases hs : (sb.length : Int) < p
  · have ES : Hid (shortR p ⟨sb, se⟩ = wrongR 3 ⟨sb, se⟩) := Lib.hid (by unfold shortR; rw [if_pos hs])
    go_upto_region 4 with (go_at_call 68; refine (CW.out _ (is_ext _ _)).mono ?_; rintro e w3 ⟨rfl, hd, k3⟩; have HD3 := Lib.hid hd; have K3 := Lib.hid k3; clear hd k3)
    obtain ⟨v3, bv3, rv3⟩ := HD3.out.ex
    clear r1 r2 r3
    obtain ⟨r1, r2, r3⟩ := bv3.rules
    have hne : (wrongR 3 ⟨sb, se⟩).e ≠ 0 := by
      unfold wrongR
      split
      · show (3 : Int) ≠ 0; decide
      · rename_i h; exact h
    have EC2 : Hid (cs = (0, wrongR 3 ⟨sb, se⟩)) := Lib.hid (by rw [EC.out, ES.out, if_neg hne])
    clear bv3 rv3
    generalize wrongR 3 ⟨sb, se⟩ = s3 at *
    have hne1 : (s3.e != 0) = true := by simp [hne]
    have hne0 : (s3.e == 0) = false := beq_eq_false_iff_ne.2 hne
    go_wp2_with fail
    go_ret
    exact ⟨by rw [EC2.out]; rfl, by rw [EC2.out]; exact HD3.out, K2.out.trans K3.out⟩
  · have ES : Hid (shortR p ⟨sb, se⟩ = ⟨sb, se⟩) := Lib.hid (by unfold shortR; rw [if_neg hs])
    by_cases he : se = 0
    · subst he
      have EC2 : Hid (cs = (n, ⟨sb, 0⟩)) := Lib.hid (by rw [EC.out, ES.out, if_pos rfl])
      go_wp2_with fail
      go_ret
      exact ⟨by rw [EC2.out]; rfl, by rw [EC2.out]; exact HD.out, K2.out⟩
    · have hne1 : (se != 0) = true := by simp [he]
      have EC2 : Hid (cs = (0, ⟨sb, se⟩)) := Lib.hid (by rw [EC.out, ES.out, if_neg he])
      clear he
      go_wp2_with fail
      go_ret
      exact ⟨by rw [EC2.out]; rfl, by rw [EC2.out]; exact HD.out, K2.out⟩
set_option maxRecDepth 100000 in
set_option maxHeartbeats 1000000 in
theorem rvalue_ (h : RdAt w0 w g s) (hb : okB s.b) : Calls Tryz.prog 96 #[.pointer (some ⟨g, 0, none⟩)] w fun e w' => e = .returned (.agg #[.bool (valR s).1.obj, .int .i64 (valR s).1.n]) ∧ RdAt w0 w' g (valR s).2 ∧ Keep (· = g) w w' := by
  have CN := Lib.hid (fun W2 (z : Ext w W2) => rnumber_ (h.ext z) hb)
  have EV : Hid (valR s = (if isIntB (numR s).1 = true then ⟨false, intOfW (numR s).1⟩ else ⟨true, refOfW (numR s).1⟩, (numR s).2)) := Lib.hid rfl
  have hgw : g < w.heap.size := by obtain ⟨v, b, _⟩ := h.ex; exact b.lt
  have hw0 : w0.heap.size ≤ w.heap.size := h.x.below.size
  obtain ⟨n0, n1⟩ := numR_in hb
  clear h hb
  generalize valR s = vs at *
  generalize (numR s).1 = n at *
  generalize (numR s).2 = s2 at *
  go_enter Tryz.func96, Tryz.ntmps96
  go_upto_region 1 with (fail)
  refine wp_name (fun w1 hw => ?_)
  have b2 : Blk w1 w.heap.size 38 #[.bool false, .int .i64 0] := Blk.new' hw
  have x1 : Ext w w1 := (Ext.refl w).alloc' hw
  have X1 := Lib.hid x1
  have B2 := Lib.hid b2
  have hng : w.heap.size ≠ g := by omega
  have hg2 := Lib.hid (Nat.le_refl w.heap.size)
  clear hw x1 b2
  generalize hq : w.heap.size = q at *
  have QB := Lib.hid hq
  clear hq
  go_upto_region 2 with (go_at_call 72; refine (CN.out _ (X1.out.trans (is_ext _ _))).mono ?_; rintro e w2 ⟨rfl, hd, k2⟩; have HD := Lib.hid hd; have K2 := Lib.hid (Keep.trans (Keep.of_ext X1.out (· = g)) (Keep.trans (Keep.of_ext (is_ext w1 _) (· = g)) k2)); have B3 := Lib.hid ((B2.out.ext (is_ext w1 _)).keep k2 hng); clear hd k2)
  obtain ⟨r1, r2, r3⟩ := B3.out.rules
  cases hi : isIntB n with
  | true =>
    have EV2 : Hid (vs = (⟨false, intOfW n⟩, s2)) := Lib.hid (by rw [EV.out, hi, if_pos rfl])
    go_wp2_with ((first | (go_at_call 116; refine (Word.isint _ _ n0 n1).mono ?_; rintro e w' ⟨rfl, rfl⟩) | (go_at_call 117; refine (Word.intof _ _ n0 n1).mono ?_; rintro e w' ⟨rfl, rfl⟩)))
    refine bodyPost_ret (v := .agg #[.bool false, .int .i64 (intOfW n)]) (by simp [results, Tryz.results96, go_sem, r1] <;> rfl) rfl ?_
    refine ⟨by rw [EV2.out], by rw [EV2.out]; exact (HD.out.far hng hw0 0 _).far hng hw0 1 _, (K2.out.setNew (p := ⟨q, 0, none⟩) (by rw [QB.out]; exact Nat.le_refl _) _).setNew (p := ⟨q, 1, none⟩) (by rw [QB.out]; exact Nat.le_refl _) _⟩
  | false =>
    have EV2 : Hid (vs = (⟨true, refOfW n⟩, s2)) := Lib.hid (by rw [EV.out, hi, if_neg (by decide)])
    go_wp2_with ((first | (go_at_call 116; refine (Word.isint _ _ n0 n1).mono ?_; rintro e w' ⟨rfl, rfl⟩) | (go_at_call 118; refine (Word.refof _ _ n0 n1).mono ?_; rintro e w' ⟨rfl, rfl⟩)))
    refine bodyPost_ret (v := .agg #[.bool true, .int .i64 (refOfW n)]) (by simp [results, Tryz.results96, go_sem, r1] <;> rfl) rfl ?_
    refine ⟨by rw [EV2.out], by rw [EV2.out]; exact (HD.out.far hng hw0 0 _).far hng hw0 1 _, (K2.out.setNew (p := ⟨q, 0, none⟩) (by rw [QB.out]; exact Nat.le_refl _) _).setNew (p := ⟨q, 1, none⟩) (by rw [QB.out]; exact Nat.le_refl _) _⟩
end
end Go.Proofs.YtjpalcejmloocaaGreat.World
namespace Go.Proofs.YtjpalcejmloocaaGreat.World
open Go.RowKit Go.Proofs.YtjpalcejmloocaaGreat.Plain
set_option linter.unusedVariables false
attribute [local go_sem ↓] Go.wp_at_zero Go.wp_at_succ

/-- the list under way: box and closure's variable known whole -/
structure LS (w wr : World) (cs : Array Value) (v : Value) (l : List Int) : Prop where
  x : Ext w wr
  b1 : Blk wr w.heap.size 29 cs
  b3 : Blk wr (w.heap.size + 1) 25 #[v]
  own : OwnI wr w.heap.size v l
theorem LS.step {w wr w' : World} {cs : Array Value} {v : Value} {l l' : List Int} (h : LS w wr cs v l) (a : AddPost wr (w.heap.size + 1) w.heap.size v l' w') : ∃ v', LS w w' cs v' l' := by
  obtain ⟨v', b, o, k⟩ := a
  refine ⟨v', ⟨Ext.of_below (Keep.below h.x.below k h.x.below.size (fun i hi hs => ?_)), h.b1.keep k (fun hs => ?_), b, o⟩⟩
  · rcases hs with hs | hs
    · omega
    · have := (h.own.own.block hs).1; omega
  · rcases hs with hs | hs
    · omega
    · obtain ⟨_, c, hc⟩ := h.own.own.block hs
      exact h.b1.ne hc (by decide) rfl
theorem LS.ext {w wr w' : World} {cs : Array Value} {v : Value} {l : List Int} (h : LS w wr cs v l) (x : Ext wr w') : LS w w' cs v l := ⟨h.x.trans x, h.b1.ext x, h.b3.ext x, h.own.ext x⟩
/-- what List tells -/
def listOf (R : PR) : List Int := R.due.foldl add1 (R.wait.foldl (fun l p => add1 (add1 l p.1) p.2) (R.ready.foldl add1 (add1 (add1 [] R.proc) R.frame)))
end Go.Proofs.YtjpalcejmloocaaGreat.World
namespace Go.Proofs.YtjpalcejmloocaaGreat.World
open Go.RowKit Go.Proofs.YtjpalcejmloocaaGreat.Plain
set_option linter.unusedVariables false
attribute [local go_sem ↓] Go.wp_at_zero Go.wp_at_succ

def upTo (k : Nat) : List Int := (List.range k).map fun (i : Nat) => (i : Int)
structure RS (w wr : World) (cs : Array Value) (v : Value) (l : List Int) : Prop where
  x : Ext w wr
  b1 : Blk wr w.heap.size 31 cs
  own : OwnI wr (w.heap.size + 1) v l
theorem RS.ext {w wr w' : World} {cs : Array Value} {v : Value} {l : List Int} (h : RS w wr cs v l) (x : Ext wr w') : RS w w' cs v l := ⟨h.x.trans x, h.b1.ext x, h.own.ext x⟩
theorem RS.push {w wr w3 : World} {cs : Array Value} {v v' : Value} {l : List Int} {ob : Obj} {x : Int} (h : RS w wr cs v l) (g : (wr.alloc ob).grownBy w3 v.ownBlock) (o : w3.ownsRow (w.heap.size + 1) 3 1 v' (l.length + 1) (l.map (Value.int .i64) ++ [.int .i64 x])) : RS w w3 cs v' (l ++ [x]) := by
  have h' := h.ext ((Ext.refl wr).alloc ob)
  have k : Keep (fun k => v.ownBlock = some k) (wr.alloc ob) w3 := ⟨g.os, g.tape, g.output, g.size, fun k hk hn => g.block k hk (fun e => hn e.symm)⟩
  refine ⟨Ext.of_below (Keep.below h'.x.below k h'.x.below.size (fun i hi hs => ?_)), h'.b1.keep k (fun hs => ?_), ?_⟩
  · have := (h.own.own.block hs).1; omega
  · have := (h.own.own.block hs).1; omega
  · unfold OwnI; rw [List.length_append, List.map_append]; exact o
theorem OwnI.base {w : World} {b b' : Nat} {v : Value} {zs : List Int} (h : OwnI w b v zs) (hb : b' ≤ b) : OwnI w b' v zs := by
  have := h.own.base hb
  unfold Own at this; rw [flat_one] at this; exact this
/-- the list that is read lies beside the one that grows -/
theorem OwnI.beside {wr w3 : World} {B gg n' cc : Nat} {v u : Value} {zs : List Int} {ob : Obj} (h : OwnI wr B u zs) (ap : Apart u v) (g : (wr.alloc ob).grownBy w3 v.ownBlock) (hat : v.ownBlock = some gg ∨ gg = wr.heap.size + 1) : OwnI w3 B u zs ∧ Apart u (.slice (some ⟨gg, 0, none⟩) n' cc) := by
  have h' : (wr.alloc ob).ownsRow B 3 1 u zs.length (zs.map (Value.int .i64)) := World.ownsRow.alloc h ob
  have k : Keep (fun k => v.ownBlock = some k) (wr.alloc ob) w3 := ⟨g.os, g.tape, g.output, g.size, fun k hk hn => g.block k hk (fun e => hn e.symm)⟩
  refine ⟨⟨h'.1, ?_⟩, fun j hj hu => ?_⟩
  · rcases h'.2 with hn | ⟨r, cap, cur, e1, h1, hg, rest⟩
    · exact .inl hn
    · refine .inr ⟨r, cap, cur, e1, h1, Blk.keep (show Blk _ r _ cur from hg) k (fun hs => ap r (by rw [e1]; rfl) hs), rest⟩
  · simp [Value.ownBlock] at hu
    subst hu
    rcases hat with e | e
    · exact ap _ hj e
    · obtain ⟨_, cs, hc⟩ := h.own.block hj
      have := hc.lt
      omega
def rootsOf (R : PR) : List Int := upTo 23 ++ (listOf R).filter (fun x => decide (23 ≤ x))
end Go.Proofs.YtjpalcejmloocaaGreat.World
