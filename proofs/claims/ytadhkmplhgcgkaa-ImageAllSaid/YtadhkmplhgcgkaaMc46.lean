/-
  PutW, as one text (a claim has at most 60 files).
-/
import Derived.Test.YtadhkmplhgcgkaaMc29
import Derived.Test.YtadhkmplhgcgkaaMc15
import Derived.Test.YtadhkmplhgcgkaaMc10
import Derived.Deep.RegionHeld3
import Derived.Lib.AppendZeros
import Derived.Lib.SlBytesConst
namespace Go.Proofs.Ytadhkmplhgcgkaa.World
open Go.RowKit Go.Proofs.Ytadhkmplhgcgkaa.Plain
set_option linter.unusedVariables false
attribute [local go_sem ↓] Go.wp_at_zero Go.wp_at_succ
theorem ret_two {a b c d : Value} (h1 : a = c) (h2 : b = d) : Ending.returned (.tuple #[a, b]) = .returned (.tuple #[c, d]) := by rw [h1, h2]
theorem ownB_lit {w : World} {g base : Nat} {l : List Int} (h : Blk w g 5 (l.map (Value.int .u8)).toArray) (hb : base ≤ g) (hm : l.length ≤ 1000000) : OwnB w base (.slice (some ⟨g, 0, none⟩) l.length l.length) l := by
  refine ⟨by simp, .inr ⟨g, l.length, _, rfl, hb, h, Nat.le_refl _, by unfold maxLen; omega, by simp, ?_⟩⟩
  rw [List.toList_toArray]
  exact List.take_of_length_le (by simp)
set_option maxRecDepth 100000 in
set_option maxHeartbeats 2000000 in
/-- onto three bytes that are full -/
theorem number0 {w : World} {g : Nat} (c0 : w.cell? ⟨g, 0, none⟩ = some (.int .u8 67)) (c1 : w.cell? ⟨g, 1, none⟩ = some (.int .u8 81)) (c2 : w.cell? ⟨g, 2, none⟩ = some (.int .u8 49)) (hg : g < w.heap.size) {n : Int} (n0 : 0 ≤ n) (n1 : n < 4294967296) :
    Calls Try.prog 40 #[.slice (some ⟨g, 0, none⟩) 3 3, .int .u32 n] w fun e w' => ∃ A c, e = .returned (.slice A 7 c) ∧ OwnB w' w.heap.size (.slice A 7 c) ([67, 81, 49] ++ b4 n) ∧ Ext w w' := by
  obtain ⟨i0, hi, hz0, hz1, hz2⟩ := info_parts infoU
  have CC := Lib.hid (And.intro c0 (And.intro c1 c2))
  clear c0 c1 c2
  go_enter Try.func40, Try.ntmps40
  have XV := Lib.hid ((Ext.refl w).alloc (.cells #[.int .u8 (n / 16777216), .int .u8 (n / 65536 % 256), .int .u8 (n / 256 % 256), .int .u8 (n % 256)] 5))
  have hB := Lib.hid (Blk.new w 5 #[.int .u8 (n / 16777216), .int .u8 (n / 65536 % 256), .int .u8 (n / 256 % 256), .int .u8 (n % 256)])
  generalize hw1 : w.alloc (.cells #[.int .u8 (n / 16777216), .int .u8 (n / 65536 % 256), .int .u8 (n / 256 % 256), .int .u8 (n % 256)] 5) = w1 at XV hB
  have HW1 := Lib.hid hw1
  clear hw1
  go_wp2_with (at_builtin; rw [HW1.out]; refine Lib.wpList_append_run _ rfl (.tmp 5) (.tmp 17) 45 45 rfl (.slice (some ⟨g, 0, none⟩) 3 3) (.slice (some ⟨w.heap.size, 0, none⟩) 4 4) rfl rfl _ _ (run_append_grow (P := Try.prog) w1 45 45 5 i0 (.int .u8 0) Try.underlying45 hi hz0 ⟨g, 0, none⟩ 3 3 [.int .u8 67, .int .u8 81, .int .u8 49] (by rw [hz1]; rfl) ?c0 ⟨w.heap.size, 0, none⟩ 4 4 [.int .u8 (n / 16777216), .int .u8 (n / 65536 % 256), .int .u8 (n / 256 % 256), .int .u8 (n % 256)] (by rw [hz1]; rfl) ?c1 (by omega) (by omega) (growslice_fits (by omega) (by rw [hz2]; omega))) ?_)
  case c0 =>
    intro j v hj
    obtain ⟨a0, a1, a2⟩ := CC.out
    rw [Addr.add_lit, Nat.zero_add]
    rw [XV.out.below.cell (p := ⟨g, j, none⟩) hg]
    rcases j with _ | _ | _ | j
    · rw [a0]; exact hj
    · rw [a1]; exact hj
    · rw [a2]; exact hj
    · simp at hj
  case c1 =>
    intro j v hj
    rw [Addr.add_lit, Nat.zero_add, hB.out.cell, ← Array.getElem?_toList]
    exact hj
  have hge := grownCap_ge w1 (3 + 4) 3 5
  have hcm := grownCap_le_maxLen w1 (3 + 4) 3 5 (by unfold maxLen; omega)
  generalize grownCap w1 (3 + 4) 3 5 = cap at hge hcm ⊢
  have hws : w.heap.size ≤ w1.heap.size := XV.out.below.size
  have O3 : Hid (OwnB (w1.drew.alloc (.cells (([.int .u8 67, .int .u8 81, .int .u8 49] : List Value).toArray ++ ([.int .u8 (n / 16777216), .int .u8 (n / 65536 % 256), .int .u8 (n / 256 % 256), .int .u8 (n % 256)] : List Value).toArray ++ Builtin.zeroCells (Value.int .u8 0).cells (cap - (3 + 4))) 5)) w.heap.size (.slice (some ⟨w1.heap.size, 0, none⟩) 7 cap) ([67, 81, 49] ++ b4 n)) := Lib.hid (by
    refine ⟨rfl, .inr ⟨w1.heap.size, cap, _, rfl, hws, heap_alloc_new w1.drew _, hge, hcm, ?_, ?_⟩⟩
    · have hz1 : (Value.int IntKind.u8 0).cells.size = 1 := rfl
      simp only [Array.size_append, List.size_toArray, size_zeroCells, hz1]
      simp
      omega
    · simp only [Array.toList_append]
      rfl)
  have X3 := Lib.hid ((XV.out.drew).alloc (.cells (([.int .u8 67, .int .u8 81, .int .u8 49] : List Value).toArray ++ ([.int .u8 (n / 16777216), .int .u8 (n / 65536 % 256), .int .u8 (n / 256 % 256), .int .u8 (n % 256)] : List Value).toArray ++ Builtin.zeroCells (Value.int .u8 0).cells (cap - (3 + 4))) 5))
  go_wp2_with fail
  go_ret
  exact ⟨_, _, rfl, O3.out, X3.out⟩
section
variable {w : World} {x : WV} {W : PW}
set_option maxRecDepth 100000 in
set_option maxHeartbeats 8000000 in
theorem putW (h : WorldAt w x W) : Calls Try.prog 19 #[.agg (cellsW W x)] w fun e w' => ∃ A c n, e = .returned (.tuple #[.slice A n c, .int .i64 (putS W).1]) ∧ OwnB w' w.heap.size (.slice A n c) (putS W).2 ∧ (putS W).2.length = n ∧ Ext w w' := by
  have CK := Lib.hid (fun W2 (z : Ext w W2) => check (h.ext z))
  have CD := Lib.hid (fun W2 (z : Ext w W2) => containsBool (h.dead.ext z))
  have HW := Lib.hid h
  obtain ⟨vL, fs, vD, vRe, vWa, vDu, vSn⟩ := x
  obtain ⟨AL, kL, eL, lL, _⟩ := h.L.row.form
  replace eL : vL = .slice AL W.L.length kL := eL
  subst eL
  obtain ⟨AD, kD, eD, lD, _⟩ := Row.form h.dead
  replace eD : vD = .slice AD W.dead.length kD := eD
  subst eD
  obtain ⟨ARe, kRe, eRe, lRe, _⟩ := Row.form h.ready
  replace eRe : vRe = .slice ARe W.R.ready.length kRe := eRe
  subst eRe
  obtain ⟨AWa, kWa, eWa, lWa, _⟩ := Row.form h.wait
  replace eWa : vWa = .slice AWa W.R.wait.length kWa := eWa
  subst eWa
  obtain ⟨ADu, kDu, eDu, lDu, _⟩ := Row.form h.due
  replace eDu : vDu = .slice ADu W.R.due.length kDu := eDu
  subst eDu
  obtain ⟨ASn, kSn, eSn, lSn, _⟩ := Row.form h.snaps
  replace eSn : vSn = .slice ASn W.R.snaps.length kSn := eSn
  subst eSn
  have HL := Lib.hid (fun i (hi : i < W.L.length) => h.L.cells rfl i hi)
  have HV := Lib.hid (fun i (hi : i < W.L.length) => h.L.flds i hi)
  have HRe : Hid (IntsAt w (.slice ARe W.R.ready.length kRe) W.R.ready) := Lib.hid h.ready
  have HDu : Hid (IntsAt w (.slice ADu W.R.due.length kDu) W.R.due) := Lib.hid h.due
  have HWa : Hid (WaitsAt w (.slice AWa W.R.wait.length kWa) W.R.wait) := Lib.hid h.wait
  simp only [cellsW] at CK CD ⊢
  simp only at HL HV CD
  have ES : Hid (putS W = if (!checkB W || W.dead.contains true) = true then (1, []) else if 65536 < (encW W).length then (2, []) else (0, encW W)) := Lib.hid rfl
  clear h
  generalize putS W = S at *
  go_enter Try.func19, Try.ntmps19
  go_upto_region 1 with (fail)
  refine wp_name (fun w1 hw => ?_)
  have b0 : Blk w1 w.heap.size 31 #[.slice AL W.L.length kL, .slice AD W.dead.length kD, .int .i64 W.last, .int .i64 W.R.proc, .int .i64 W.R.frame, .slice ARe W.R.ready.length kRe, .slice AWa W.R.wait.length kWa, .slice ADu W.R.due.length kDu, .string W.R.out, .string W.R.inp, .int .i64 W.R.how, .int .i64 W.R.exit, .slice ASn W.R.snaps.length kSn] := Blk.new' hw
  have x1 : Ext w w1 := (Ext.refl w).alloc' hw
  have X1 := Lib.hid x1
  have B1 := Lib.hid b0
  clear hw x1
  generalize hqq : w.heap.size = q at *
  have QB := Lib.hid hqq
  clear hqq
  obtain ⟨r1, r2, r3⟩ := b0.rules
  clear b0
  cases hck : checkB W with
  | false =>
    have ES2 : Hid (S = (1, [])) := Lib.hid (by rw [ES.out, hck]; rfl)
    rw [hck] at CK
    clear hck ES
    go_wp2_with (go_at_call 24; refine (CK.out _ (X1.out.trans (is_ext _ _))).mono ?_; rintro e w2 ⟨rfl, x2⟩; have X2 := Lib.hid x2; clear x2)
    go_ret2
    refine ⟨none, 0, 0, ret_two rfl (by rw [ES2.out]; rfl), by rw [ES2.out]; exact OwnB.nil _ _, by rw [ES2.out]; rfl, (X1.out.trans (is_ext _ _)).trans X2.out⟩
  | true =>
    rw [hck] at CK
    cases hd : W.dead.contains true with
    | true =>
      have ES2 : Hid (S = (1, [])) := Lib.hid (by rw [ES.out, hck, hd]; rfl)
      rw [hd] at CD
      clear hck hd ES
      go_wp2_with ((first | (go_at_call 24; refine (CK.out _ (X1.out.trans (is_ext _ _))).mono ?_; rintro e w2 ⟨rfl, x2⟩; obtain ⟨y2, rfl⟩ := x2) | (go_at_call 39; refine (CD.out _ (X1.out.trans (is_ext _ _))).mono ?_; rintro e w3 ⟨rfl, x3⟩; have X3 := Lib.hid x3; clear x3)))
      go_ret2
      refine ⟨none, 0, 0, ret_two rfl (by rw [ES2.out]; rfl), by rw [ES2.out]; exact OwnB.nil _ _, by rw [ES2.out]; rfl, (X1.out.trans (is_ext _ _)).trans X3.out⟩
    | false =>
      have ES2 : Hid (S = if 65536 < (encW W).length then (2, []) else (0, encW W)) := Lib.hid (by rw [ES.out, hck, hd]; rfl)
      have EW : Hid (encW W = [67, 81, 49] ++ b4 W.L.length ++ W.L.flatMap encT ++ b4 W.R.proc ++ b4 W.R.frame ++ encL W.R.ready ++ b4 W.R.wait.length ++ W.R.wait.flatMap encWt ++ encL W.R.due ++ b4 W.last) := Lib.hid rfl
      rw [hd] at CD
      have hcp := Lib.hid hck
      have NL := check_len hck
      have RLn := regs_lens hck
      have OK := Lib.hid (canon_ok hck)
      have LI := last_in hck
      have PO := Lib.hid (fun i (hi : i < W.L.length) => put_ok hck HW.out.nums hi)
      have FT := Lib.hid (flatT_take W.L)
      have FP := Lib.hid (flatP_take W.R.wait)
      have hpr : 0 ≤ W.R.proc ∧ W.R.proc < 3001 := by rcases OK.out.proc with e1 | e1 <;> omega
      have hfr : 0 ≤ W.R.frame ∧ W.R.frame < 3001 := by rcases OK.out.frame with e1 | e1 <;> omega
      have hre : ∀ j, j < W.R.ready.length → 0 ≤ W.R.ready.getD j 0 ∧ W.R.ready.getD j 0 < 4294967296 := fun j hj => by rcases OK.out.ready j hj with e1 | e1 <;> omega
      have hdu : ∀ j, j < W.R.due.length → 0 ≤ W.R.due.getD j 0 ∧ W.R.due.getD j 0 < 4294967296 := fun j hj => by rcases OK.out.due j hj with e1 | e1 <;> omega
      have hwa : ∀ j, j < W.R.wait.length → (0 ≤ (wAt W.R.wait j).1 ∧ (wAt W.R.wait j).1 < 4294967296) ∧ (0 ≤ (wAt W.R.wait j).2 ∧ (wAt W.R.wait j).2 < 4294967296) := fun j hj => by
        obtain ⟨k1, k2⟩ := OK.out.wait j hj
        refine ⟨?_, ?_⟩
        · rcases k1 with e1 | e1 <;> omega
        · rcases k2 with e1 | e1 <;> omega
      have HPR := Lib.hid hpr
      have HFR := Lib.hid hfr
      have HRE := Lib.hid hre
      have HDU := Lib.hid hdu
      have HWI := Lib.hid hwa
      clear hck hd ES OK hpr hfr hre hdu hwa
      have hwl : IntKind.u32.wrap (W.L.length : Int) = (W.L.length : Int) := IntWalk.u32_in _ (by omega)
      have hcv := fun (W2 : World) => Lib.run_convert_bytes_const (P := Try.prog) W2 45 5 #[.int .u8 67, .int .u8 81, .int .u8 49] 3 3 Try.underlying45 Try.underlying5
      go_wp2_with ((first | (go_at_call 24; refine (CK.out _ (X1.out.trans (is_ext _ _))).mono ?_; rintro e w2 ⟨rfl, x2⟩; obtain ⟨y2, rfl⟩ := x2) | (go_at_call 39; refine (CD.out _ (X1.out.trans (is_ext _ _))).mono ?_; rintro e w3 ⟨rfl, x3⟩; have X3 := Lib.hid (((X1.out.trans (is_ext _ _))).trans x3); have B3 := Lib.hid ((B1.out.ext (is_ext _ _)).ext x3); clear x3 r1 r2 r3; obtain ⟨r1, r2, r3⟩ := B3.out.rules) | (go_at_call 40; refine calls_name (fun W2 hW => ?_); obtain ⟨fr, hb⟩ : ∃ fr, W2.heap[w3.heap.size]? = some (.cells #[.int .u8 67, .int .u8 81, .int .u8 49] 5 fr) := ⟨_, by subst hW; exact heap_alloc_new w3 _⟩; have hg3 : w3.heap.size < W2.heap.size := (by subst hW; (rw [World.size_alloc]) <;> omega); have e0 : W2.cell? ⟨w3.heap.size, 0, none⟩ = some (.int .u8 67) := cell_of_row W2 _ 0 _ _ fr hb; have e1 : W2.cell? ⟨w3.heap.size, 1, none⟩ = some (.int .u8 81) := cell_of_row W2 _ 1 _ _ fr hb; have e2 : W2.cell? ⟨w3.heap.size, 2, none⟩ = some (.int .u8 49) := cell_of_row W2 _ 2 _ _ fr hb; have X4 := Lib.hid (X3.out.trans ((Ext.refl w3).alloc' hW)); have B4 := Lib.hid (B3.out.ext ((Ext.refl w3).alloc' hW)); clear hW hb; refine (number0 e0 e1 e2 hg3 (n := (W.L.length : Int)) (by omega) (by omega)).mono ?_; rintro e w4 ⟨A4, c4, rfl, o, x4⟩; have N4 : Hid (NB w w4 (.slice A4 7 c4) ([67, 81, 49] ++ b4 W.L.length) 7 q 31 #[.slice AL W.L.length kL, .slice AD W.dead.length kD, .int .i64 W.last, .int .i64 W.R.proc, .int .i64 W.R.frame, .slice ARe W.R.ready.length kRe, .slice AWa W.R.wait.length kWa, .slice ADu W.R.due.length kDu, .string W.R.out, .string W.R.inp, .int .i64 W.R.how, .int .i64 W.R.exit, .slice ASn W.R.snaps.length kSn] w4) := Lib.hid ⟨Own.bytes (o.own.base X4.out.below.size), rfl, X4.out.trans x4, Keep.refl _ _, B4.out.ext x4, by decide⟩; clear r1 r2 r3 e0 e1 e2 hg3 x4 o; obtain ⟨r1, r2, r3⟩ := N4.out.b.rules; clear fr)))
      clear r1 r2 r3 hwl hcv CK CD B1 X1 B3
      go_loopw [4, 6, 27] (fun u4 u6 iv wr => ∃ (i : Nat) (A : Option Addr) (c n : Nat), i ≤ W.L.length ∧ iv = .int .i64 i ∧ u4 = .slice A n c ∧ n ≤ 7 + 300 * i ∧ NB w wr (.slice A n c) ([67, 81, 49] ++ b4 W.L.length ++ (W.L.take i).flatMap encT) n q 31 #[.slice AL W.L.length kL, .slice AD W.dead.length kD, .int .i64 W.last, .int .i64 W.R.proc, .int .i64 W.R.frame, .slice ARe W.R.ready.length kRe, .slice AWa W.R.wait.length kWa, .slice ADu W.R.due.length kDu, .string W.R.out, .string W.R.inp, .int .i64 W.R.how, .int .i64 W.R.exit, .slice ASn W.R.snaps.length kSn] wr) (fun _ _ iv _ => W.L.length - (intOf iv).toNat)
      case atStart => exact ⟨0, A4, c4, _, Nat.zero_le _, rfl, rfl, by omega, by rw [List.take_zero]; simpa using N4.out⟩
      case round =>
        clear N4
        obtain ⟨i, A, c, n, hiL, rfl, rfl, hn, N⟩ := hrel
        have NH := Lib.hid N
        by_cases hlt : i < W.L.length
        · have iI : (i : Int) < (W.L.length : Int) := by omega
          obtain ⟨b, off, rfl, hb, d0, d1, d2, d3, d4, d5⟩ := HL.out i hlt
          have XA := Lib.hid N.x
          have hb' : b < w.heap.size := by rw [QB.out]; exact hb
          replace d0 := (XA.out.below.cell (p := ⟨b, off + i * 6, none⟩) hb').trans d0
          replace d1 := (XA.out.below.cell (p := ⟨b, off + i * 6 + 1, none⟩) hb').trans d1
          replace d2 := (XA.out.below.cell (p := ⟨b, off + i * 6 + 2, none⟩) hb').trans d2
          replace d3 := (XA.out.below.cell (p := ⟨b, off + i * 6 + 3, none⟩) hb').trans d3
          replace d4 := (XA.out.below.cell (p := ⟨b, off + i * 6 + 4, none⟩) hb').trans d4
          replace d5 := (XA.out.below.cell (p := ⟨b, off + i * 6 + 5, none⟩) hb').trans d5
          have VF := Lib.hid (HV.out i hlt)
          have FTi := Lib.hid (FT.out i hlt)
          have POi := Lib.hid (PO.out i hlt)
          obtain ⟨AF, cF', ef, f1, f2⟩ := Row.form (HV.out i hlt)
          replace ef : fs i = .slice AF (tAt W.L i).F.length cF' := ef
          rw [ef] at d4 VF
          clear ef f1 f2 N
          generalize tAt W.L i = t at *
          have hn5 : n ≤ 5000000 := by omega
          go_wp2_with (go_at_call 41; refine (putNB (NH.out.ext ((Ext.refl _).alloc _)) hn5 VF.out POi.out.1).mono ?_; rintro e w7 ⟨A7, c7, n7, rfl, o, hn7⟩; have N7 := Lib.hid o.here; have HN7 := Lib.hid hn7; clear o hn7)
          go_roundw
          case rel => exact ⟨i + 1, A7, c7, n7, by omega, by go_num, rfl, by have := HN7.out; have := POi.out.2; omega, by rw [FTi.out, ← List.append_assoc]; exact N7.out⟩
          case measure => simp [intOf] <;> omega
        · obtain rfl : i = W.L.length := by omega
          rw [List.take_length] at N
          have N5 := Lib.hid N
          obtain ⟨r1, r2, r3⟩ := N.b.rules
          have q3 : wr.cell? ⟨q, 3, none⟩ = some (.int .i64 W.R.proc) := r1 3
          have q4 : wr.cell? ⟨q, 4, none⟩ = some (.int .i64 W.R.frame) := r1 4
          clear N NH
          have hpw : IntKind.u32.wrap W.R.proc = W.R.proc := IntWalk.u32_in _ (by have := HPR.out; omega)
          have hfw : IntKind.u32.wrap W.R.frame = W.R.frame := IntWalk.u32_in _ (by have := HFR.out; omega)
          have C1 := Lib.hid (fun W2 (z : Ext wr W2) => number2 (n := W.R.proc) (N5.out.ext z) (by omega) (by have := HPR.out; omega) (by have := HPR.out; omega))
          go_upto_region 9 with (fail)
          go_region_held3 (fun w' => w'.cell? ⟨q, 3, none⟩ = some (.int .i64 W.R.proc) ∧ w'.cell? ⟨q, 4, none⟩ = some (.int .i64 W.R.frame)) (first | go_keep | exact ⟨q3, q4⟩ | exact ⟨z3, z4⟩) ((first | (go_at_call 40; refine (C2.out _ (is_ext w8 _)).mono ?_; rintro e w9 ⟨A9, c9, rfl, o⟩; have N9 := Lib.hid o; have z3 : w9.cell? ⟨q, 3, none⟩ = some (.int .i64 W.R.proc) := o.b.cell 3; have z4 : w9.cell? ⟨q, 4, none⟩ = some (.int .i64 W.R.frame) := o.b.cell 4; clear o) | (go_at_call 40; refine (C1.out _ (is_ext wr _)).mono ?_; rintro e w8 ⟨A8, c8, rfl, o⟩; have C2 := Lib.hid (fun W2 (z : Ext w8 W2) => number2 (n := W.R.frame) (o.ext z) (by omega) (by have := HFR.out; omega) (by have := HFR.out; omega)); have z3 : w8.cell? ⟨q, 3, none⟩ = some (.int .i64 W.R.proc) := o.b.cell 3; have z4 : w8.cell? ⟨q, 4, none⟩ = some (.int .i64 W.R.frame) := o.b.cell 4; clear o)))
          all_goals
            clear z3 z4 q3 q4 r1 r2 r3 C1 C2
            obtain ⟨r1, r2, r3⟩ := N9.out.b.rules
            have hwl2 : IntKind.u32.wrap (W.R.wait.length : Int) = (W.R.wait.length : Int) := IntWalk.u32_in _ (by omega)
            go_wp2_with ((first | (go_at_call 42; refine (numbers2 N9.out (by omega) HRe.out HRE.out).mono ?_; rintro e w10 ⟨A10, c10, n10, rfl, o, hn10⟩; have N10 := Lib.hid o; have hb10 : n10 ≤ 1000000 := (by omega); have HN10 := Lib.hid hn10; clear hn10; clear r1 r2 r3; obtain ⟨r1, r2, r3⟩ := o.b.rules; clear o) | (go_at_call 40; refine (number2 (n := (W.R.wait.length : Int)) N10.out (by omega) (by omega) (by omega)).mono ?_; rintro e w11 ⟨A11, c11, rfl, o⟩; have N11 := Lib.hid o.here; clear r1 r2 r3; obtain ⟨r1, r2, r3⟩ := o.b.rules; clear o)))
            clear r1 r2 r3 hwl2
            go_loopw [4, 8, 62] (fun u4 u8 iv wr => ∃ (i : Nat) (A : Option Addr) (c n : Nat), i ≤ W.R.wait.length ∧ iv = .int .i64 i ∧ u4 = .slice A n c ∧ n ≤ 1000000 + 8 * i ∧ NB w wr (.slice A n c) ([67, 81, 49] ++ b4 W.L.length ++ W.L.flatMap encT ++ b4 W.R.proc ++ b4 W.R.frame ++ encL W.R.ready ++ b4 W.R.wait.length ++ (W.R.wait.take i).flatMap encWt) n q 31 #[.slice AL W.L.length kL, .slice AD W.dead.length kD, .int .i64 W.last, .int .i64 W.R.proc, .int .i64 W.R.frame, .slice ARe W.R.ready.length kRe, .slice AWa W.R.wait.length kWa, .slice ADu W.R.due.length kDu, .string W.R.out, .string W.R.inp, .int .i64 W.R.how, .int .i64 W.R.exit, .slice ASn W.R.snaps.length kSn] wr) (fun _ _ iv _ => W.R.wait.length - (intOf iv).toNat)
            case atStart => exact ⟨0, A11, c11, _, Nat.zero_le _, rfl, rfl, by have := HN10.out; omega, by rw [List.take_zero]; simpa using N11.out⟩
            case round =>
              clear N11 N10 N9 N5
              obtain ⟨k, A, c, n2, hkL, rfl, rfl, hn2, N⟩ := hrel
              have NH := Lib.hid N
              by_cases hlt : k < W.R.wait.length
              · have kI : (k : Int) < (W.R.wait.length : Int) := by omega
                obtain ⟨b, off, rfl, hb, hcW⟩ := Row.at_ (HWa.out.ext N.x) k hlt
                have d0 : wr.cell? ⟨b, off + k * 2, none⟩ = some (.int .i64 (wAt W.R.wait k).1) := hcW 0 (by omega)
                have d1 : wr.cell? ⟨b, off + k * 2 + 1, none⟩ = some (.int .i64 (wAt W.R.wait k).2) := hcW 1 (by omega)
                have FPk := Lib.hid (FP.out k hlt)
                obtain ⟨⟨a0, a1⟩, ⟨e0, e1⟩⟩ := HWI.out k hlt
                clear hcW N
                generalize wAt W.R.wait k = p at *
                obtain ⟨ps, pp⟩ := p
                simp only at d0 d1 a0 a1 e0 e1
                go_upto_region 15 with (fail)
                refine wp_name (fun w12 hw => ?_)
                have b8 : Blk w12 wr.heap.size 75 #[.int .i64 ps, .int .i64 pp] := Blk.new' hw
                have x12 := (Ext.refl wr).alloc' hw
                have N12 := Lib.hid ((NH.out.ext x12).here)
                have B8 := Lib.hid b8
                clear hw b8 x12 d0 d1
                generalize wr.heap.size = g8 at *
                have q0 : w12.cell? ⟨g8, 0, none⟩ = some (.int .i64 ps) := B8.out.cell 0
                have q1 : w12.cell? ⟨g8, 1, none⟩ = some (.int .i64 pp) := B8.out.cell 1
                have hl8 := B8.out.lt
                have haw : IntKind.u32.wrap ps = ps := IntWalk.u32_in _ (by omega)
                have hew : IntKind.u32.wrap pp = pp := IntWalk.u32_in _ (by omega)
                have C1 := Lib.hid (fun W2 (z : Ext w12 W2) => number2 (n := ps) (N12.out.ext z) (by omega) a0 a1)
                go_region_held3 (fun w' => w'.cell? ⟨g8, 0, none⟩ = some (.int .i64 ps) ∧ w'.cell? ⟨g8, 1, none⟩ = some (.int .i64 pp)) (first | go_keep | exact ⟨q0, q1⟩ | exact ⟨z0, z1⟩) ((first | (go_at_call 40; refine (C2.out _ (is_ext w13 _)).mono ?_; rintro e w14 ⟨A14, c14, rfl, o⟩; have N14 := Lib.hid o.here; have B9 := blk_kt B8.out o.k (by decide); have z0 : w14.cell? ⟨g8, 0, none⟩ = some (.int .i64 ps) := B9.cell 0; have z1 : w14.cell? ⟨g8, 1, none⟩ = some (.int .i64 pp) := B9.cell 1; clear o B9) | (go_at_call 40; refine (C1.out _ (is_ext w12 _)).mono ?_; rintro e w13 ⟨A13, c13, rfl, o⟩; have C2 := Lib.hid (fun W2 (z : Ext w13 W2) => number2 (n := pp) (o.ext z) (by omega) e0 e1); have B9 := blk_kt B8.out o.k (by decide); have z0 : w13.cell? ⟨g8, 0, none⟩ = some (.int .i64 ps) := B9.cell 0; have z1 : w13.cell? ⟨g8, 1, none⟩ = some (.int .i64 pp) := B9.cell 1; clear o B9)))
                all_goals
                  go_wp2_with fail
                  go_roundw
                  case rel => exact ⟨k + 1, A14, c14, _, by omega, by go_num, rfl, by omega, by rw [FPk.out, ← List.append_assoc, ← List.append_assoc]; exact N14.out⟩
                  case measure => simp [intOf] <;> omega
              · obtain rfl : k = W.R.wait.length := by omega
                rw [List.take_length] at N
                have N15 := Lib.hid N
                have q7 : wr.cell? ⟨q, 7, none⟩ = some (.slice ADu W.R.due.length kDu) := N.b.cell 7
                have q2 : wr.cell? ⟨q, 2, none⟩ = some (.int .i64 W.last) := N.b.cell 2
                have hlq := N.b.lt
                have hlw : IntKind.u32.wrap W.last = W.last := IntWalk.u32_in _ (by omega)
                clear N NH
                have C1 := Lib.hid (fun W2 (z : Ext wr W2) => numbers2 (N15.out.ext z) (by omega) HDu.out HDU.out)
                go_upto_region 17 with (fail)
                go_region_held3 (fun w' => w'.cell? ⟨q, 7, none⟩ = some (.slice ADu W.R.due.length kDu) ∧ w'.cell? ⟨q, 2, none⟩ = some (.int .i64 W.last)) (first | go_keep | exact ⟨q7, q2⟩ | exact ⟨z7, z2⟩) ((first | (go_at_call 42; refine (C1.out _ (is_ext wr _)).mono ?_; rintro e w16 ⟨A16, c16, n16, rfl, o, hn16⟩; have hb16 : n16 ≤ 4000000 := (by omega); have C2 := Lib.hid (fun W2 (z : Ext w16 W2) => number2 (n := W.last) (o.ext z) (by omega) LI.1 (by omega)); have HN16 := Lib.hid hn16; have z7 : w16.cell? ⟨q, 7, none⟩ = some (.slice ADu W.R.due.length kDu) := o.b.cell 7; have z2 : w16.cell? ⟨q, 2, none⟩ = some (.int .i64 W.last) := o.b.cell 2; clear o hn16) | (go_at_call 40; refine (C2.out _ (is_ext w16 _)).mono ?_; rintro e w17 ⟨A17, c17, rfl, o⟩; have N17 := Lib.hid o; have z7 : w17.cell? ⟨q, 7, none⟩ = some (.slice ADu W.R.due.length kDu) := o.b.cell 7; have z2 : w17.cell? ⟨q, 2, none⟩ = some (.int .i64 W.last) := o.b.cell 2; clear o)))
                all_goals
                  have EB : Hid ((encW W).length = n16 + 4) := Lib.hid (by rw [EW.out]; exact N17.out.len)
                  have OB : Hid (OwnB w17 w.heap.size (.slice A17 (n16 + 4) c17) (encW W)) := Lib.hid (by rw [EW.out]; exact N17.out.own)
                  have XB := Lib.hid N17.out.x
                  generalize encW W = enc at *
                  by_cases hbig : 65536 < n16 + 4
                  · have hb1 : (65536 : Int) < ((n16 + 4 : Nat) : Int) := by omega
                    have hb2 : (65536 : Int) < (n16 : Int) + 4 := by omega
                    have ES3 : Hid (S = (2, [])) := Lib.hid (by rw [ES2.out, EB.out, if_pos hbig])
                    clear C1 C2 z7 z2 q7 q2
                    go_wp2_with fail
                    go_ret2
                    exact ⟨none, 0, 0, ret_two rfl (by rw [ES3.out]; rfl), by rw [ES3.out]; exact OwnB.nil _ _, by rw [ES3.out]; rfl, XB.out⟩
                  · have hb1 : ¬ (65536 : Int) < ((n16 + 4 : Nat) : Int) := by omega
                    have hb2 : ¬ (65536 : Int) < (n16 : Int) + 4 := by omega
                    have ES3 : Hid (S = (0, enc)) := Lib.hid (by rw [ES2.out, EB.out, if_neg hbig])
                    clear C1 C2 z7 z2 q7 q2
                    go_wp2_with fail
                    go_ret2
                    exact ⟨A17, c17, n16 + 4, ret_two rfl (by rw [ES3.out]; rfl), by rw [ES3.out]; exact OB.out, by rw [ES3.out]; exact EB.out, XB.out⟩
end
end Go.Proofs.Ytadhkmplhgcgkaa.World
