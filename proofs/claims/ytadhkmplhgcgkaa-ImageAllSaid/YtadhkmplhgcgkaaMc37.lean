/-
  RefPut0, Read7, as one text (a claim has at most 60 files).
-/
import Derived.Test.YtadhkmplhgcgkaaMc29
import Derived.Test.YtadhkmplhgcgkaaMc27
import Derived.Test.YtadhkmplhgcgkaaMc10
import Derived.Test.YtadhkmplhgcgkaaMc33
import Derived.Laws.Concat
import Derived.Test.YtadhkmplhgcgkaaMc36
import Derived.Test.YtadhkmplhgcgkaaMc30
namespace Go.Proofs.Ytadhkmplhgcgkaa.World
open Go.RowKit Go.Proofs.Ytadhkmplhgcgkaa.Plain
set_option linter.unusedVariables false
attribute [local go_sem ↓] Go.wp_at_zero Go.wp_at_succ
theorem strI_data : ∀ (l : List Int), strI l = ⟨(l.map (fun n => UInt8.ofNat n.toNat)).toArray⟩ := by
  suffices h : ∀ (l : List Int) (s : ByteArray), l.foldl (fun r n => r.push (UInt8.ofNat n.toNat)) s = ⟨s.data ++ (l.map (fun n => UInt8.ofNat n.toNat)).toArray⟩ from fun l => by
    unfold strI
    rw [h]
    show (⟨#[] ++ _⟩ : ByteArray) = _
    rw [Array.empty_append]
  intro l
  induction l with
  | nil => intro s; show s = ⟨s.data ++ #[]⟩; rw [Array.append_empty]
  | cons a l ih =>
    intro s
    rw [List.foldl_cons, ih]
    congr 1
    rw [List.map_cons]
    show s.data.push _ ++ _ = _
    rw [← Array.toList_inj]
    simp
theorem strI_app (a b : List Int) : strI (a ++ b) = strI a ++ strI b := by
  rw [strI_data, strI_data, strI_data]
  apply ByteArray.ext
  rw [List.map_append]
  simp
theorem strI_len (l : List Int) : (strI l).size = l.length := by
  rw [strI_data]
  show (List.toArray _).size = _
  rw [List.size_toArray, List.length_map]
theorem str_add {a b : List Int} (h : a.length + b.length ≤ 9223372036854775807) (W : World) : (Op.stringOp .add (strI a) (strI b)).run Try.prog W = .ok (.string (strI (a ++ b))) W := by
  rw [strI_app]
  exact run_string_add_sum W _ _ (by rw [strI_len, strI_len]; exact h)
theorem encL_size (l : List Int) : (encL l).length = 4 + 4 * l.length := by
  unfold encL
  rw [List.length_append, b4_len, flat4_len]
theorem ret_str {a b : ByteArray} (h : a = b) : Ending.returned (.string a) = .returned (.string b) := by rw [h]
set_option maxRecDepth 100000 in
set_option maxHeartbeats 2000000 in
theorem four_ (v : Int) (w : World) : Calls Try.prog 68 #[.int .i64 v] w fun e w' => e = .returned (.string (strI (b4 (v % 4294967296)))) ∧ Ext w w' := by
  obtain ⟨n, hn⟩ : ∃ n, v % 4294967296 = n := ⟨_, rfl⟩
  have n0 : 0 ≤ n ∧ n < 4294967296 := by omega
  have hw : IntKind.u32.wrap v = n := by rw [← hn]; rfl
  rw [hn]
  clear hn
  go_enter Try.func68, Try.ntmps68
  have hcv : (convert 45 9 (.slice (some ⟨w.heap.size, 0, none⟩) 4 4)).run Try.prog (w.alloc (.cells #[.int .u8 (n / 16777216), .int .u8 (n / 65536 % 256), .int .u8 (n / 256 % 256), .int .u8 (n % 256)] 5)) = .ok (.string (strI (b4 n))) (w.alloc (.cells #[.int .u8 (n / 16777216), .int .u8 (n / 65536 % 256), .int .u8 (n / 256 % 256), .int .u8 (n % 256)] 5)) :=
    conv_str (rowB (l := b4 n) (Blk.new w _ _) (by show (4 : Nat) ≤ 1000000; omega))
  go_wp2_with fail
  go_ret
  exact ⟨rfl, (Ext.refl w).alloc _⟩
/-- a place's number, a number's -/
theorem ref4 {n : Int} (h0 : 0 ≤ n) (h1 : n ≤ 2147483647) : (2 * n) % 4294967296 = refW n := by
  unfold refW
  rw [if_neg (by omega), if_neg (by omega)]
  omega
theorem int4 {n : Int} (h : fitsB n = true) : (2 * n + 1) % 4294967296 = intW n := by
  have := fits_of h
  unfold intW cutI
  rw [if_neg (by omega), if_neg (by omega)]
set_option maxRecDepth 100000 in
set_option maxHeartbeats 2000000 in
theorem val4_ {n : Nat} {o : Bool} {n' : Int} (hN : n ≤ 1000000) (h : fldB n ⟨o, n'⟩ = true) (w : World) : Calls Try.prog 69 #[.agg #[.bool o, .int .i64 n']] w fun e w' => e = .returned (.string (strI (b4 (valW ⟨o, n'⟩)))) ∧ Ext w w' := by
  simp only [fldB] at h
  have CR := Lib.hid (fun W2 => four_ (2 * n') W2)
  have CI := Lib.hid (fun W2 => four_ (2 * n' + 1) W2)
  go_enter Try.func69, Try.ntmps69
  cases o with
  | true =>
    have hb : 0 ≤ n' ∧ n' < n := of_decide_eq_true h
    have hw : IntKind.i64.wrap (2 * n') = 2 * n' := IntWalk.i64_in _ (by omega)
    have e1 : valW ⟨true, n'⟩ = (2 * n') % 4294967296 := by unfold valW; rw [if_pos rfl, ref4 hb.1 (by omega)]
    have e1 := Lib.hid e1
    clear h hb
    go_wp2_with (go_at_call 68; refine (CR.out _).mono ?_; rintro e w2 ⟨rfl, x2⟩; have X2 := Lib.hid (((Ext.refl w).alloc _).trans x2); clear x2)
    go_ret
    exact ⟨ret_str (by rw [e1.out]), X2.out⟩
  | false =>
    have h : fitsB n' = true := h
    have hb := fits_of h
    have hw : IntKind.i64.wrap (2 * n') = 2 * n' := IntWalk.i64_in _ (by omega)
    have hw2 : IntKind.i64.wrap (2 * n' + 1) = 2 * n' + 1 := IntWalk.i64_in _ (by omega)
    have e1 : Hid (valW ⟨false, n'⟩ = (2 * n' + 1) % 4294967296) := Lib.hid (by have q := int4 h; rw [q]; rfl)
    clear h hb
    go_wp2_with (go_at_call 68; refine (CI.out _).mono ?_; rintro e w2 ⟨rfl, x2⟩; have X2 := Lib.hid (((Ext.refl w).alloc _).trans x2); clear x2)
    go_ret
    exact ⟨ret_str (by rw [e1.out]), X2.out⟩
set_option maxRecDepth 100000 in
set_option maxHeartbeats 2000000 in
theorem list_4 {w : World} {v : Value} {l : List Int} (h : IntsAt w v l) (hl : l.length ≤ 1000000) (hn : ∀ j, j < l.length → 0 ≤ l.getD j 0 ∧ l.getD j 0 < 4294967296) :
    Calls Try.prog 70 #[v] w fun e w' => e = .returned (.string (strI (encL l))) ∧ Ext w w' := by
  obtain ⟨A, c, ev, lc, lm⟩ := Row.form h
  subst ev
  have HH := Lib.hid h
  have HN := Lib.hid hn
  have CF := Lib.hid (fun W2 (v : Int) (h : 0 ≤ v ∧ v < 4294967296) => show Calls Try.prog 68 #[.int .i64 v] W2 fun e w' => e = .returned (.string (strI (b4 v))) ∧ Ext W2 w' by
    have q := four_ v W2
    rw [Int.emod_eq_of_lt h.1 h.2] at q
    exact q)
  clear h hn
  go_enter Try.func70, Try.ntmps70
  go_wp2_with (go_at_call 68; refine (CF.out _ _ (by omega)).mono ?_; rintro e w2 ⟨rfl, x2⟩; have X2 := Lib.hid x2; clear x2)
  go_loopw [3, 4] (fun sv iv wr => ∃ k : Nat, k ≤ l.length ∧ iv = .int .i64 k ∧ sv = .string (strI (b4 l.length ++ (l.take k).flatMap b4)) ∧ Ext w wr) (fun _ iv _ => l.length - (intOf iv).toNat)
  case atStart => exact ⟨0, Nat.zero_le _, rfl, by rw [List.take_zero]; simp, X2.out⟩
  case round =>
    clear X2
    obtain ⟨k, hk, rfl, rfl, x⟩ := hrel
    have X := Lib.hid x
    clear x
    by_cases hlt : k < l.length
    · have kI : (k : Int) < (l.length : Int) := by omega
      obtain ⟨b, off, rfl, hb, hc⟩ := Row.at_ (HH.out.ext X.out) k hlt
      have d0 : wr.cell? ⟨b, off + k, none⟩ = some (.int .i64 (l.getD k 0)) := by have := hc 0 (by omega); rw [Nat.mul_one, Nat.add_zero] at this; exact this
      have FT := Lib.hid (flat4_take l k hlt)
      have hx := HN.out k hlt
      clear hc
      generalize l.getD k 0 = y at *
      have AD := Lib.hid (flat4_len (l.take k))
      have hadd : ∀ W : World, Sem.run Try.prog (Op.stringOp .add (strI (b4 l.length ++ (l.take k).flatMap b4)) (strI (b4 y))) W = .ok (.string (strI (b4 l.length ++ ((l.take k).flatMap b4 ++ b4 y)))) W := fun W => by
        rw [← List.append_assoc]
        exact str_add (by
        rw [List.length_append, b4_len, b4_len, AD.out, List.length_take]; omega) W
      have NX : Hid (strI (b4 l.length ++ ((l.take k).flatMap b4 ++ b4 y)) = strI (b4 l.length ++ (l.take (k + 1)).flatMap b4)) := Lib.hid (by rw [FT.out])
      go_wp2_with (go_at_call 68; refine (CF.out _ _ hx).mono ?_; rintro e w3 ⟨rfl, x3⟩; have X3 := Lib.hid (X.out.trans x3); clear x3)
      go_roundw
      case rel => exact ⟨k + 1, by omega, by go_num, by rw [NX.out], X3.out⟩
      case measure => simp [intOf] <;> omega
    · obtain rfl : k = l.length := by omega
      have EN : Hid (strI (b4 l.length ++ (l.take l.length).flatMap b4) = strI (encL l)) := Lib.hid (by rw [List.take_length]; rfl)
      go_wp2_with fail
      go_ret
      exact ⟨ret_str EN.out, X.out⟩
set_option maxRecDepth 100000 in
set_option maxHeartbeats 2000000 in
theorem dead_ {w : World} {x : WV} {W : PW} (h : WorldAt w x W) : Calls Try.prog 67 #[.agg (cellsW W x)] w fun e w' => e = .returned (.bool (W.dead.contains true)) ∧ Ext w w' := by
  obtain ⟨vL, fs, vD, vRe, vWa, vDu, vSn⟩ := x
  obtain ⟨A, c, ev, lc, lm⟩ := Row.form h.dead
  replace ev : vD = .slice A W.dead.length c := ev
  subst ev
  have HD := Lib.hid (show Row w (.slice A W.dead.length c) W.dead.length 1 (fun i _ => .bool (W.dead.getD i false)) from h.dead)
  have EC := Lib.hid (hasB_all W.dead)
  have AF := Lib.hid (allTo_false (fun j => !W.dead.getD j false) W.dead.length)
  have AS := Lib.hid (allTo_succ (fun j => !W.dead.getD j false))
  clear h
  unfold cellsW
  generalize W.dead.length = n at *
  generalize W.dead.contains true = res at *
  go_enter Try.func67, Try.ntmps67
  go_upto_region 1 with (fail)
  refine wp_name (fun w1 hw => ?_)
  have b0 := Blk.new' hw
  have x0 := (Ext.refl w).alloc' hw
  clear hw
  have B0 := Lib.hid b0
  have X0 := Lib.hid x0
  clear b0 x0
  generalize w.heap.size = q at *
  go_upto_region 1 with (fail)
  go_wp2_with fail
  go_loopw [3] (fun iv wr => ∃ k : Nat, k ≤ n ∧ iv = .int .i64 k ∧ allTo (fun j => !W.dead.getD j false) k = true ∧ wr = w1) (fun iv _ => n - (intOf iv).toNat)
  case atStart => exact ⟨0, Nat.zero_le _, rfl, rfl, rfl⟩
  case round =>
    obtain ⟨k, hk, rfl, ha, rfl⟩ := hrel
    obtain ⟨r1, r2, r3⟩ := B0.out.rules
    by_cases hlt : k < n
    · have kI : (k : Int) < (n : Int) := by omega
      obtain ⟨b, off, rfl, hb, hc⟩ := Row.at_ (HD.out.ext X0.out) k hlt
      obtain ⟨dk, hdk⟩ : ∃ d, W.dead.getD k false = d := ⟨_, rfl⟩
      have d0 : wr.cell? ⟨b, off + k, none⟩ = some (.bool dk) := by have := hc 0 (by omega); rw [Nat.mul_one, Nat.add_zero, hdk] at this; exact this
      clear hc
      have HDK := Lib.hid hdk
      have HA := Lib.hid ha
      clear hdk ha
      cases dk with
      | true =>
        have er : Hid (res = true) := Lib.hid (by rw [← EC.out, AF.out k hlt (by rw [HDK.out]; rfl)]; rfl)
        go_wp2_with fail
        go_ret
        exact ⟨ret_bool er.out.symm, X0.out⟩
      | false =>
        go_wp2_with fail
        go_roundw
        case rel => exact ⟨k + 1, by omega, by go_num, AS.out k HA.out (by rw [HDK.out]; rfl), by trivial⟩
        case measure => simp [intOf] <;> omega
    · have HA := Lib.hid ha
      clear ha
      obtain rfl : k = n := by omega
      have er : Hid (res = false) := Lib.hid (by rw [← EC.out, HA.out]; rfl)
      go_wp2_with fail
      go_ret
      exact ⟨ret_bool er.out.symm, X0.out⟩
end Go.Proofs.Ytadhkmplhgcgkaa.World
namespace Go.Proofs.Ytadhkmplhgcgkaa.World
open Go.RowKit Go.Proofs.Ytadhkmplhgcgkaa.Plain
set_option linter.unusedVariables false
attribute [local go_sem ↓] Go.wp_at_zero Go.wp_at_succ
/-- the reader's box: the bytes, the next place -/
structure R7At (w0 w : World) (g : Nat) (S : ByteArray) (s : RdS) : Prop where
  ex : ∃ at_ : Nat, at_ ≤ S.size ∧ Blk w g 97 #[.string S, .int .i64 (at_ : Int), .int .i64 s.e] ∧ s.b = (bytesI S).drop at_
  x : Ext w0 w
  hg : w0.heap.size ≤ g
theorem R7At.ext {w0 w w' : World} {g : Nat} {S : ByteArray} {s : RdS} (h : R7At w0 w g S s) (y : Ext w w') : R7At w0 w' g S s := by
  obtain ⟨a, ha, b, e⟩ := h.ex
  exact ⟨⟨a, ha, b.ext y, e⟩, h.x.trans y, h.hg⟩
def textR (n : Nat) (s : RdS) : ByteArray := if s.e = 0 ∧ n ≤ s.b.length then strI (s.b.take n) else ByteArray.empty
theorem str_extract (S : ByteArray) (a n : Nat) : strI (((bytesI S).drop a).take n) = S.extract a (a + n) := by
  rw [strI_data]
  unfold bytesI
  rw [← List.map_drop, ← List.map_take, List.map_map]
  have e : ((fun n : Int => UInt8.ofNat n.toNat) ∘ fun b : UInt8 => (b.toNat : Int)) = id := by
    funext b
    simp
  rw [e, List.map_id]
  apply ByteArray.ext
  rw [ByteArray.data_extract]
  show ((S.data.toList.drop a).take n).toArray = _
  rw [← Array.toList_inj, Array.toList_extract, List.extract_eq_take_drop, Nat.add_sub_cancel_left]
section
variable {w w0 : World} {g : Nat} {s : RdS} {S : ByteArray}
set_option maxRecDepth 100000 in
set_option maxHeartbeats 1000000 in
theorem wrong7 (h : R7At w0 w g S s) (x : Int) : Calls Try.prog 76 #[.pointer (some ⟨g, 0, none⟩), .int .i64 x] w fun e w' => e = .returned (.tuple #[]) ∧ R7At w0 w' g S (wrongR x s) ∧ Keep (· = g) w w' := by
  obtain ⟨a, ha, b, eb⟩ := h.ex
  have HH := Lib.hid h
  have HB := Lib.hid b
  have HE := Lib.hid eb
  obtain ⟨r1, r2, r3⟩ := b.rules
  clear h b eb
  obtain ⟨bs, se⟩ := s
  simp only at r1 HB HE
  by_cases h0 : se = 0
  · subst h0
    have EW : Hid (wrongR x ⟨bs, 0⟩ = ⟨bs, x⟩) := Lib.hid rfl
    go_enter Try.func76, Try.ntmps76
    go_wp2_with fail
    go_end0
    refine ⟨rfl, ?_, (Keep.refl (· = g) w).setCell (p := ⟨g, 2, none⟩) rfl _⟩
    rw [EW.out]
    exact ⟨⟨a, ha, by have := HB.out.set 2 (.int .i64 x); simpa using this, HE.out⟩, HH.out.x.setNew (p := ⟨g, 2, none⟩) HH.out.hg _, HH.out.hg⟩
  · have e0 : (se == 0) = false := beq_eq_false_iff_ne.2 h0
    have EW : Hid (wrongR x ⟨bs, se⟩ = ⟨bs, se⟩) := Lib.hid (by unfold wrongR; rw [if_neg h0])
    clear h0
    go_enter Try.func76, Try.ntmps76
    go_wp2_with fail
    go_end0
    refine ⟨rfl, by rw [EW.out]; exact HH.out, Keep.refl _ _⟩
set_option maxRecDepth 100000 in
set_option maxHeartbeats 2000000 in
theorem text7 (h : R7At w0 w g S s) (hS : S.size ≤ 1000000) (n : Nat) (hn : n ≤ 4294967295) : Calls Try.prog 71 #[.pointer (some ⟨g, 0, none⟩), .int .i64 (n : Int)] w fun e w' => e = .returned (.string (textR n s)) ∧ R7At w0 w' g S (takeR n s).2 ∧ Keep (· = g) w w' := by
  obtain ⟨a, ha, b, eb⟩ := h.ex
  have CW := Lib.hid (fun W2 (z : Ext w W2) => wrong7 (h.ext z) 3)
  have HH := Lib.hid h
  have HB := Lib.hid b
  have HE := Lib.hid eb
  obtain ⟨r1, r2, r3⟩ := b.rules
  clear h b eb
  obtain ⟨bs, se⟩ := s
  simp only at r1 HB HE CW
  have LB : Hid (bs.length = S.size - a) := Lib.hid (by rw [HE.out, List.length_drop, bytesI_len])
  have n0 : ¬ (n : Int) < 0 := by omega
  have hsub : IntKind.i64.wrap ((S.size : Int) - (a : Int)) = (S.size : Int) - (a : Int) := IntWalk.i64_in _ (by omega)
  by_cases h0 : se = 0
  · subst h0
    by_cases hle : n ≤ S.size - a
    · have hI : ¬ (S.size : Int) - (a : Int) < (n : Int) := by omega
      have ET : Hid (textR n ⟨bs, 0⟩ = S.extract a (a + n)) := Lib.hid (by
        unfold textR
        rw [if_pos ⟨rfl, by show n ≤ bs.length; rw [LB.out]; exact hle⟩]
        show strI (bs.take n) = _
        rw [HE.out, str_extract])
      have ES : Hid ((takeR n ⟨bs, 0⟩).2 = ⟨bs.drop n, 0⟩) := Lib.hid (by unfold takeR; rw [if_pos rfl, if_pos (by show n ≤ bs.length; rw [LB.out]; exact hle)])
      obtain ⟨m, hm⟩ : ∃ m, a + n = m := ⟨_, rfl⟩
      rw [hm] at ET
      have hadd : IntKind.i64.wrap ((a : Int) + (n : Int)) = (m : Int) := by rw [IntWalk.i64_in _ (by omega)]; omega
      have hsl : ∀ W : World, (Instr.slice 9 (.string S) (some (.int .i64 (a : Int))) (some (.int .i64 (m : Int))) none).run Try.prog W = .ok (.string (S.extract a m)) W := fun W => by
        have q := run_slice_string (P := Try.prog) W 9 S .i64 .i64 (a : Int) (m : Int) Try.underlying9 (by omega) (by omega) (by omega)
        exact q
      have HM := Lib.hid hm
      clear hm
      go_enter Try.func71, Try.ntmps71
      go_upto_region 1 with (fail)
      refine wp_region_ext (by kernel_rfl) (by kernel_rfl) ?_
      repeat (go_big_quiet_step (fail))
      refine wpQuiet_nil ?_
      rintro w1 ⟨xx, hx⟩
      have X1 : Hid (Ext w w1) := Lib.hid ⟨xx, hx⟩
      have B1 := Lib.hid (HB.out.ext ⟨xx, hx⟩)
      clear hx r1 r2 r3
      obtain ⟨r1, r2, r3⟩ := B1.out.rules
      go_upto_region 4 with (fail)
      refine wp_region_ext (by kernel_rfl) (by kernel_rfl) ?_
      repeat (go_big_quiet_step (fail))
      refine wpQuiet_nil ?_
      rintro w2 ⟨xx, hx⟩
      have X2 := Lib.hid (X1.out.trans ⟨xx, hx⟩)
      have B2 := Lib.hid (B1.out.ext ⟨xx, hx⟩)
      clear hx r1 r2 r3 hsl
      obtain ⟨r1, r2, r3⟩ := B2.out.rules
      go_wp2_with fail
      go_ret
      refine ⟨ret_str ET.out.symm, ?_, (Keep.of_ext X2.out _).trans ((Keep.refl (· = g) w2).setCell (p := ⟨g, 1, none⟩) rfl _)⟩
      rw [ES.out]
      exact ⟨⟨m, by have := HM.out; omega, by have := B2.out.set 1 (.int .i64 (m : Int)); simpa using this, by show bs.drop n = _; rw [HE.out, List.drop_drop, HM.out]⟩, (HH.out.x.trans X2.out).setNew (p := ⟨g, 1, none⟩) HH.out.hg _, HH.out.hg⟩
    · have hI : (S.size : Int) - (a : Int) < (n : Int) := by omega
      have ET : Hid (textR n ⟨bs, 0⟩ = ByteArray.empty) := Lib.hid (by
        unfold textR
        rw [if_neg (fun q => hle (by rw [← LB.out]; exact q.2))])
      have ES : Hid ((takeR n ⟨bs, 0⟩).2 = wrongR 3 ⟨bs, 0⟩) := Lib.hid (by unfold takeR; rw [if_pos rfl, if_neg (by show ¬ n ≤ bs.length; rw [LB.out]; exact hle)]; rfl)
      go_enter Try.func71, Try.ntmps71
      go_upto_region 1 with (fail)
      refine wp_region_ext (by kernel_rfl) (by kernel_rfl) ?_
      repeat (go_big_quiet_step (fail))
      refine wpQuiet_nil ?_
      rintro w1 ⟨xx, hx⟩
      have X1 : Hid (Ext w w1) := Lib.hid ⟨xx, hx⟩
      clear hx r1 r2 r3
      go_wp2_with (go_at_call 76; refine (CW.out _ X1.out).mono ?_; rintro e w2 ⟨rfl, hd, k2⟩; have H2 := Lib.hid hd; have K2 := Lib.hid k2; clear hd k2)
      go_ret
      exact ⟨ret_str ET.out.symm, by rw [ES.out]; exact H2.out, (Keep.of_ext X1.out _).trans K2.out⟩
  · have e0 : (se != 0) = true := by simp [h0]
    have ET : Hid (textR n ⟨bs, se⟩ = ByteArray.empty) := Lib.hid (by
      unfold textR
      rw [if_neg (fun q => h0 q.1)])
    have ES : Hid ((takeR n ⟨bs, se⟩).2 = wrongR 3 ⟨bs, se⟩) := Lib.hid (by unfold takeR wrongR; rw [if_neg h0, if_neg h0])
    clear h0
    go_enter Try.func71, Try.ntmps71
    go_upto_region 1 with (fail)
    refine wp_region_ext (by kernel_rfl) (by kernel_rfl) ?_
    repeat (go_big_quiet_step (fail))
    refine wpQuiet_nil ?_
    rintro w1 ⟨xx, hx⟩
    have X1 : Hid (Ext w w1) := Lib.hid ⟨xx, hx⟩
    clear hx r1 r2 r3
    go_wp2_with (go_at_call 76; refine (CW.out _ X1.out).mono ?_; rintro e w2 ⟨rfl, hd, k2⟩; have H2 := Lib.hid hd; have K2 := Lib.hid k2; clear hd k2)
    go_ret
    exact ⟨ret_str ET.out.symm, by rw [ES.out]; exact H2.out, (Keep.of_ext X1.out _).trans K2.out⟩
theorem str_at (l : List Int) (h : okB l) (i : Nat) (hi : i < (strI l).size) : (((strI l)[i]'hi).toNat : Int) = l.getD i 0 := by
  have hl : i < l.length := by rw [strI_len] at hi; exact hi
  have e : (strI l)[i]'hi = UInt8.ofNat (l[i]'hl).toNat := by
    have q := strI_data l
    have : ∀ (s : ByteArray) (hs : s = ⟨(l.map (fun n => UInt8.ofNat n.toNat)).toArray⟩) (h2 : i < s.size), s[i]'h2 = UInt8.ofNat (l[i]'hl).toNat := fun s hs h2 => by
      subst hs
      show (List.toArray _)[i]'_ = _
      simp
    exact this _ q hi
  rw [e, List.getD_eq_getElem?_getD, List.getElem?_eq_getElem hl]
  have := h _ (List.getElem_mem hl)
  show ((UInt8.ofNat _).toNat : Int) = l[i]
  rw [UInt8.toNat_ofNat_of_lt' (by show _ < 256; omega)]
  omega
def w7 (s : RdS) : List Int := if s.e = 0 ∧ 4 ≤ s.b.length then s.b.take 4 else []
theorem w7_text (s : RdS) : textR 4 s = strI (w7 s) := by unfold textR w7; split <;> rfl
theorem w7_num (s : RdS) : beV (w7 s) = (numR s).1 := by
  unfold w7 numR takeR
  by_cases h0 : s.e = 0
  · by_cases h4 : 4 ≤ s.b.length
    · rw [if_pos ⟨h0, h4⟩, if_pos h0, if_pos h4]
    · rw [if_neg (fun q => h4 q.2), if_pos h0, if_neg h4]; rfl
  · rw [if_neg (fun q => h0 q.1), if_neg h0]; rfl
theorem w7_len (s : RdS) : (w7 s).length = 4 ∨ (w7 s).length = 0 := by
  unfold w7
  split
  · rename_i h
    left
    rw [List.length_take]; omega
  · right; rfl
theorem w7_ok {s : RdS} (h : okB s.b) : okB (w7 s) := by
  unfold w7
  split
  · exact fun x hx => h x (List.mem_of_mem_take hx)
  · intro x hx; cases hx
set_option maxRecDepth 100000 in
set_option maxHeartbeats 2000000 in
theorem word7 (h : R7At w0 w g S s) (hS : S.size ≤ 1000000) (hb : okB s.b) : Calls Try.prog 74 #[.pointer (some ⟨g, 0, none⟩)] w fun e w' => e = .returned (.int .u32 (numR s).1) ∧ R7At w0 w' g S (numR s).2 ∧ Keep (· = g) w w' := by
  have CT := Lib.hid (fun W2 (z : Ext w W2) => text7 (h.ext z) hS 4 (by omega))
  rw [w7_text] at CT
  have EN := Lib.hid (w7_num s)
  have LN := Lib.hid (w7_len s)
  have OK := Lib.hid (w7_ok hb)
  have ES : Hid ((numR s).2 = (takeR 4 s).2) := Lib.hid rfl
  clear h hb
  rw [ES.out]
  generalize (takeR 4 s).2 = s2 at *
  generalize (numR s).1 = nv at *
  generalize w7 s = l at *
  have SA := Lib.hid (str_at l OK.out)
  have SL := Lib.hid (strI_len l)
  generalize strI l = sv at *
  have hs4 : sv.size ≤ 4 := by rw [SL.out]; rcases LN.out with h | h <;> omega
  go_enter Try.func74, Try.ntmps74
  go_wp2_with (go_at_call 71; refine (CT.out _ (Ext.refl _)).mono ?_; rintro e w2 ⟨rfl, hd, k2⟩; have HD := Lib.hid hd; have K2 := Lib.hid k2; clear hd k2)
  go_loopw [4, 5] (fun vv iv wr => ∃ i : Nat, i ≤ sv.size ∧ iv = .int .i64 i ∧ vv = .int .u32 (beV (l.take i)) ∧ wr = w2) (fun _ iv _ => sv.size - (intOf iv).toNat)
  case atStart => exact ⟨0, by omega, rfl, rfl, rfl⟩
  case round =>
    obtain ⟨i, hi, rfl, rfl, rfl⟩ := hrel
    by_cases hlt : i < sv.size
    · have iI : (i : Int) < (sv.size : Int) := by omega
      have hll : i < l.length := by rw [← SL.out]; exact hlt
      have L4 : l.length = 4 := by rcases LN.out with h | h <;> omega
      have VI := beV_take OK.out L4 (show i < 4 by omega)
      have XI := OK.out (l.getD i 0) (by rw [List.getD_eq_getElem?_getD, List.getElem?_eq_getElem hll]; exact List.getElem_mem _)
      have SU : Hid (beV (l.take (i + 1)) = beV (l.take i) * 256 + l.getD i 0) := Lib.hid (by
        rw [List.take_succ_eq_append_getElem hll, beV_push, List.getD_eq_getElem?_getD, List.getElem?_eq_getElem hll]; rfl)
      have hix : ∀ W : World, (Instr.index 9 (.string sv) (.int .i64 (i : Int))).run Try.prog W = .ok (.int .u8 (l.getD i 0)) W := fun W => by
        have q := run_index_string (P := Try.prog) (w := W) 9 sv .i64 (i : Int) Try.underlying9
        rw [q, dif_pos ⟨by omega, iI⟩]
        have e := SA.out i hlt
        simp only [Int.toNat_natCast]
        rw [e]
      clear L4 hll
      generalize beV (l.take i) = v at *
      generalize l.getD i 0 = y at *
      obtain ⟨v0, v1⟩ := VI
      obtain ⟨y0, y1⟩ := XI
      have hsh : IntKind.u32.wrap (v * 256) = v * 256 := IntWalk.u32_in _ (by omega)
      have hyw : IntKind.u32.wrap y = y := IntWalk.u32_in _ (by omega)
      have haw : IntKind.u32.wrap (v * 256 + y) = v * 256 + y := IntWalk.u32_in _ (by omega)
      go_wp2_with fail
      go_roundw
      case rel => exact ⟨i + 1, by omega, by go_num, by rw [SU.out], by trivial⟩
      case measure => simp [intOf] <;> omega
    · obtain rfl : i = sv.size := by omega
      have EV : Hid (beV (l.take sv.size) = nv) := Lib.hid (by rw [SL.out, List.take_length]; exact EN.out)
      go_wp2_with fail
      go_ret
      exact ⟨ret_u32 EV.out, HD.out, K2.out⟩
set_option maxRecDepth 100000 in
set_option maxHeartbeats 2000000 in
theorem count7 (h : R7At w0 w g S s) (hS : S.size ≤ 1000000) (hb : okB s.b) (each : Int) (h1 : 1 ≤ each) (h8 : each ≤ 8) : Calls Try.prog 72 #[.pointer (some ⟨g, 0, none⟩), .int .i64 each] w fun e w' => e = .returned (.int .i64 (countR each s).1) ∧ R7At w0 w' g S (countR each s).2 ∧ Keep (· = g) w w' := by
  have CW := Lib.hid (fun W2 (z : Ext w W2) => word7 (h.ext z) hS hb)
  have NI := numR_in hb
  have EC : Hid (countR each s = if (shortR ((numR s).1 * each) (numR s).2).e = 0 then ((numR s).1, shortR ((numR s).1 * each) (numR s).2) else (0, shortR ((numR s).1 * each) (numR s).2)) := Lib.hid rfl
  clear h hb
  generalize numR s = ns at *
  generalize countR each s = cs at *
  obtain ⟨n, s2⟩ := ns
  simp only at CW NI EC
  go_enter Try.func72, Try.ntmps72
  go_upto_region 2 with (go_at_call 74; refine (CW.out _ (Ext.refl _)).mono ?_; rintro e w2 ⟨rfl, hd, k2⟩; have HD := Lib.hid hd; have K2 := Lib.hid k2; clear hd k2)
  obtain ⟨a, ha, b, eb⟩ := HD.out.ex
  have HE := Lib.hid eb
  have BB := Lib.hid b
  have CR := Lib.hid (fun W2 (z : Ext w2 W2) => wrong7 (HD.out.ext z) 3)
  obtain ⟨r1, r2, r3⟩ := b.rules
  clear b eb
  obtain ⟨bs, se⟩ := s2
  simp only at r1 HE EC HD CR BB
  have LB : Hid (bs.length = S.size - a) := Lib.hid (by rw [HE.out, List.length_drop, bytesI_len])
  have hsub : IntKind.i64.wrap ((S.size : Int) - (a : Int)) = (S.size : Int) - (a : Int) := IntWalk.i64_in _ (by omega)
  have hld : (bs.length : Int) = (S.size : Int) - (a : Int) := by rw [LB.out]; omega
  clear LB
  have hne : each ≠ 0 := by omega
  have hqi : ((S.size : Int) - (a : Int)) / each < n ↔ (S.size : Int) - (a : Int) < n * each := by rw [Int.ediv_lt_iff_lt_mul (by omega)]
  by_cases h0 : se = 0
  · subst h0
    by_cases hlt : ((S.size : Int) - (a : Int)) / each < n
    · have EF : Hid (cs = (0, wrongR 3 ⟨bs, 0⟩)) := Lib.hid (by
        have e : shortR (n * each) ⟨bs, 0⟩ = ⟨bs, 3⟩ := by
          unfold shortR
          rw [if_pos (by show (bs.length : Int) < _; rw [hld]; exact hqi.1 hlt)]; rfl
        rw [EC.out, e, if_neg (by show ¬ (3 : Int) = 0; omega)]; rfl)
      clear EC hqi
      refine wp_region_ext (by kernel_rfl) (by kernel_rfl) ?_
      repeat (go_big_quiet_step (fail))
      refine wpQuiet_nil ?_
      rintro w3 ⟨xx, hx⟩
      have X3 : Hid (Ext w2 w3) := Lib.hid ⟨xx, hx⟩
      clear hx r1 r2 r3
      have E3 : Hid (wrongR 3 ⟨bs, 0⟩ = ⟨bs, 3⟩) := Lib.hid rfl
      go_wp2_with (go_at_call 76; refine (CR.out _ X3.out).mono ?_; rintro e w4 ⟨rfl, hd, k2⟩; have H4 := Lib.hid hd; have K4 := Lib.hid k2; clear hd k2; obtain ⟨a2, ha2, b2, eb2⟩ := H4.out.ex; rw [E3.out] at b2; simp only at b2; obtain ⟨r1, r2, r3⟩ := b2.rules)
      go_ret
      exact ⟨by rw [EF.out]; rfl, by rw [EF.out]; exact H4.out, (K2.out.trans (Keep.of_ext X3.out _)).trans K4.out⟩
    · have EF : Hid (cs = (n, ⟨bs, 0⟩)) := Lib.hid (by
        have e : shortR (n * each) ⟨bs, 0⟩ = ⟨bs, 0⟩ := by
          unfold shortR
          rw [if_neg (by show ¬ (bs.length : Int) < _; rw [hld]; exact fun q => hlt (hqi.2 q))]
        rw [EC.out, e, if_pos rfl])
      clear EC hqi
      refine wp_region_ext (by kernel_rfl) (by kernel_rfl) ?_
      repeat (go_big_quiet_step (fail))
      refine wpQuiet_nil ?_
      rintro w3 ⟨xx, hx⟩
      have X3 : Hid (Ext w2 w3) := Lib.hid ⟨xx, hx⟩
      have B3 := Lib.hid (BB.out.ext ⟨xx, hx⟩)
      clear hx r1 r2 r3
      obtain ⟨r1, r2, r3⟩ := B3.out.rules
      go_wp2_with fail
      go_ret
      exact ⟨by rw [EF.out]; rfl, by rw [EF.out]; exact HD.out.ext X3.out, K2.out.trans (Keep.of_ext X3.out _)⟩
  · have e0 : (se == 0) = false := beq_eq_false_iff_ne.2 h0
    have e1 : (se != 0) = true := by simp [h0]
    have EF : Hid (cs = (0, ⟨bs, se⟩)) := Lib.hid (by
      have e : shortR (n * each) ⟨bs, se⟩ = ⟨bs, se⟩ := stay_short h0
      rw [EC.out, e, if_neg h0])
    clear EC hqi h0
    refine wp_region_ext (by kernel_rfl) (by kernel_rfl) ?_
    repeat (go_big_quiet_step (fail))
    refine wpQuiet_nil ?_
    rintro w3 ⟨xx, hx⟩
    have X3 : Hid (Ext w2 w3) := Lib.hid ⟨xx, hx⟩
    have B3 := Lib.hid (BB.out.ext ⟨xx, hx⟩)
    clear hx r1 r2 r3
    obtain ⟨r1, r2, r3⟩ := B3.out.rules
    go_wp2_with fail
    go_ret
    exact ⟨by rw [EF.out]; rfl, by rw [EF.out]; exact HD.out.ext X3.out, K2.out.trans (Keep.of_ext X3.out _)⟩
end
end Go.Proofs.Ytadhkmplhgcgkaa.World
