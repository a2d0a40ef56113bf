/-
  Fixed, RefPut0, as one text (a claim has at most 60 files).
-/
import Derived.Test.YtjpalcejmloocaaGreatVq01
import Derived.Test.YtjpalcejmloocaaGreatVq30
import Derived.Test.YtjpalcejmloocaaGreatVq36
import Derived.Test.YtjpalcejmloocaaGreatVq22
import Derived.Laws.Concat
namespace Go.Proofs.YtjpalcejmloocaaGreat.Plain
open Go.RowKit
theorem wpList_of_quiet {P : Program} {ops : Array Oper} {C : World → Prop} {Q : Act → Prop} {Q' : Exit → Act → World → Prop} (hQ : ∀ a w, C w → Q a → Q' .normal a w) :
    ∀ (l : List Oper) (a : Act) (w : World), C w → wpQuiet P ops C Q l a → wpList P ops Q' l a w
  | [], a, w, hw, h => hQ a w hw h
  | o :: l, a, w, hw, h => by
    unfold wpQuiet at h
    unfold wpList
    by_cases hx : Region.wanted o (yielded ops a.tmps) = true
    · rw [if_pos hx] at h ⊢
      exact .inl (Oper.wp_of_quiet hw (fun a' w' hw' h' => wpList_of_quiet hQ l a' w' hw' h') h)
    · rw [if_neg hx] at h ⊢
      exact wpList_of_quiet hQ l _ w hw h
theorem wp_region_fixed {P : Program} {id : Nat} {Q : Exit → Act → World → Prop} {a : Act} {w : World} {l : List Oper}
    (h : wpQuiet P l.toArray (fun w' => ∃ x, w' = ext w x) (fun a' => ∀ w', (∃ x, w' = ext w x) → Q .normal a' w') l a) : (Code.region id l.toArray false).wp P Q a w :=
  wp_region_lit (wpList_of_quiet (Q := fun a' => ∀ w', (∃ x, w' = ext w x) → Q .normal a' w') (fun _ w' hw' h => h w' hw') l a w (Ext.refl w) h)
end Go.Proofs.YtjpalcejmloocaaGreat.Plain
namespace Go.Proofs.YtjpalcejmloocaaGreat.World
open Go.RowKit Go.Proofs.YtjpalcejmloocaaGreat.Plain
set_option linter.unusedVariables false
attribute [local go_sem ↓] Go.wp_at_zero Go.wp_at_succ
theorem strI_data : ∀ (l : List Int), strI l = ⟨(l.map (fun n => UInt8.ofNat n.toNat)).toArray⟩ := by
  suffices h : ∀ (l : List Int) (s : ByteArray), l.foldl (fun r n => r.push (UInt8.ofNat n.toNat)) s = ⟨s.data ++ (l.map (fun n => UInt8.ofNat n.toNat)).toArray⟩ from fun l => by
    unfold strI
    rw [h]
    show (⟨#[] ++ _⟩ : ByteArray) = _
    rw [Array.empty_append]
  intro l
  induction l with
  | nil => intro s; show s = ⟨s.data ++ #[]⟩; rw [Array.append_empty]
  | cons a l ih =>
    intro s
    rw [List.foldl_cons, ih]
    congr 1
    rw [List.map_cons]
    show s.data.push _ ++ _ = _
    rw [← Array.toList_inj]
    simp
theorem strI_app (a b : List Int) : strI (a ++ b) = strI a ++ strI b := by
  rw [strI_data, strI_data, strI_data]
  apply ByteArray.ext
  rw [List.map_append]
  simp
theorem strI_len (l : List Int) : (strI l).size = l.length := by
  rw [strI_data]
  show (List.toArray _).size = _
  rw [List.size_toArray, List.length_map]
theorem str_add {a b : List Int} (h : a.length + b.length ≤ 9223372036854775807) (W : World) : (Op.stringOp .add (strI a) (strI b)).run Tryz.prog W = .ok (.string (strI (a ++ b))) W := by
  rw [strI_app]
  exact run_string_add_sum W _ _ (by rw [strI_len, strI_len]; exact h)
theorem encL_size (l : List Int) : (encL l).length = 4 + 4 * l.length := by
  unfold encL
  rw [List.length_append, b4_len, flat4_len]
theorem ret_str {a b : ByteArray} (h : a = b) : Ending.returned (.string a) = .returned (.string b) := by rw [h]
set_option maxRecDepth 100000 in
set_option maxHeartbeats 2000000 in
theorem four_ (v : Int) (w : World) : Calls Tryz.prog 48 #[.int .i64 v] w fun e w' => e = .returned (.string (strI (b4 (v % 4294967296)))) ∧ Ext w w' := by
  obtain ⟨n, hn⟩ : ∃ n, v % 4294967296 = n := ⟨_, rfl⟩
  have n0 : 0 ≤ n ∧ n < 4294967296 := by omega
  have hw : IntKind.u32.wrap v = n := by rw [← hn]; rfl
  rw [hn]
  clear hn
  go_enter Tryz.func48, Tryz.ntmps48
  have hcv : (convert 79 9 (.slice (some ⟨w.heap.size, 0, none⟩) 4 4)).run Tryz.prog (w.alloc (.cells #[.int .u8 (n / 16777216), .int .u8 (n / 65536 % 256), .int .u8 (n / 256 % 256), .int .u8 (n % 256)] 5)) = .ok (.string (strI (b4 n))) (w.alloc (.cells #[.int .u8 (n / 16777216), .int .u8 (n / 65536 % 256), .int .u8 (n / 256 % 256), .int .u8 (n % 256)] 5)) :=
    conv_str (rowB (l := b4 n) (Blk.new w _ _) (by show (4 : Nat) ≤ 1000000; omega))
  go_wp2_with fail
  go_ret
  exact ⟨rfl, (Ext.refl w).alloc _⟩
/-- a place's number, a number's -/
theorem ref4 {n : Int} (h0 : 0 ≤ n) (h1 : n ≤ 2147483647) : (2 * n) % 4294967296 = refW n := by
  unfold refW
  rw [if_neg (by omega), if_neg (by omega)]
  omega
theorem int4 {n : Int} (h : fitsB n = true) : (2 * n + 1) % 4294967296 = intW n := by
  have := fits_of h
  unfold intW cutI
  rw [if_neg (by omega), if_neg (by omega)]
set_option maxRecDepth 100000 in
set_option maxHeartbeats 2000000 in
theorem val4_ {n : Nat} {o : Bool} {n' : Int} (hN : n ≤ 1000000) (h : fldB n ⟨o, n'⟩ = true) (w : World) : Calls Tryz.prog 49 #[.agg #[.bool o, .int .i64 n']] w fun e w' => e = .returned (.string (strI (b4 (valW ⟨o, n'⟩)))) ∧ Ext w w' := by
  simp only [fldB] at h
  have CR := Lib.hid (fun W2 => four_ (2 * n') W2)
  have CI := Lib.hid (fun W2 => four_ (2 * n' + 1) W2)
  go_enter Tryz.func49, Tryz.ntmps49
  cases o with
  | true =>
    have hb : 0 ≤ n' ∧ n' < n := of_decide_eq_true h
    have hw : IntKind.i64.wrap (2 * n') = 2 * n' := IntWalk.i64_in _ (by omega)
    have e1 : valW ⟨true, n'⟩ = (2 * n') % 4294967296 := by unfold valW; rw [if_pos rfl, ref4 hb.1 (by omega)]
    have e1 := Lib.hid e1
    clear h hb
    go_wp2_with (go_at_call 48; refine (CR.out _).mono ?_; rintro e w2 ⟨rfl, x2⟩; have X2 := Lib.hid (((Ext.refl w).alloc _).trans x2); clear x2)
    go_ret
    exact ⟨ret_str (by rw [e1.out]), X2.out⟩
  | false =>
    have h : fitsB n' = true := h
    have hb := fits_of h
    have hw : IntKind.i64.wrap (2 * n') = 2 * n' := IntWalk.i64_in _ (by omega)
    have hw2 : IntKind.i64.wrap (2 * n' + 1) = 2 * n' + 1 := IntWalk.i64_in _ (by omega)
    have e1 : Hid (valW ⟨false, n'⟩ = (2 * n' + 1) % 4294967296) := Lib.hid (by have q := int4 h; rw [q]; rfl)
    clear h hb
    go_wp2_with (go_at_call 48; refine (CI.out _).mono ?_; rintro e w2 ⟨rfl, x2⟩; have X2 := Lib.hid (((Ext.refl w).alloc _).trans x2); clear x2)
    go_ret
    exact ⟨ret_str (by rw [e1.out]), X2.out⟩
set_option maxRecDepth 100000 in
set_option maxHeartbeats 2000000 in
theorem list_4 {w : World} {v : Value} {l : List Int} (h : IntsAt w v l) (hl : l.length ≤ 1000000) (hn : ∀ j, j < l.length → 0 ≤ l.getD j 0 ∧ l.getD j 0 < 4294967296) :
    Calls Tryz.prog 50 #[v] w fun e w' => e = .returned (.string (strI (encL l))) ∧ Ext w w' := by
  obtain ⟨A, c, ev, lc, lm⟩ := Row.form h
  subst ev
  have HH := Lib.hid h
  have HN := Lib.hid hn
  have CF := Lib.hid (fun W2 (v : Int) (h : 0 ≤ v ∧ v < 4294967296) => show Calls Tryz.prog 48 #[.int .i64 v] W2 fun e w' => e = .returned (.string (strI (b4 v))) ∧ Ext W2 w' by
    have q := four_ v W2
    rw [Int.emod_eq_of_lt h.1 h.2] at q
    exact q)
  clear h hn
  go_enter Tryz.func50, Tryz.ntmps50
  go_wp2_with (go_at_call 48; refine (CF.out _ _ (by omega)).mono ?_; rintro e w2 ⟨rfl, x2⟩; have X2 := Lib.hid x2; clear x2)
  go_loopw [3, 4] (fun sv iv wr => ∃ k : Nat, k ≤ l.length ∧ iv = .int .i64 k ∧ sv = .string (strI (b4 l.length ++ (l.take k).flatMap b4)) ∧ Ext w wr) (fun _ iv _ => l.length - (intOf iv).toNat)
  case atStart => exact ⟨0, Nat.zero_le _, rfl, by rw [List.take_zero]; simp, X2.out⟩
  case round =>
    clear X2
    obtain ⟨k, hk, rfl, rfl, x⟩ := hrel
    have X := Lib.hid x
    clear x
    by_cases hlt : k < l.length
    · have kI : (k : Int) < (l.length : Int) := by omega
      obtain ⟨b, off, rfl, hb, hc⟩ := Row.at_ (HH.out.ext X.out) k hlt
      have d0 : wr.cell? ⟨b, off + k, none⟩ = some (.int .i64 (l.getD k 0)) := by have := hc 0 (by omega); rw [Nat.mul_one, Nat.add_zero] at this; exact this
      have FT := Lib.hid (flat4_take l k hlt)
      have hx := HN.out k hlt
      clear hc
      generalize l.getD k 0 = y at *
      have AD := Lib.hid (flat4_len (l.take k))
      have hadd : ∀ W : World, Sem.run Tryz.prog (Op.stringOp .add (strI (b4 l.length ++ (l.take k).flatMap b4)) (strI (b4 y))) W = .ok (.string (strI (b4 l.length ++ ((l.take k).flatMap b4 ++ b4 y)))) W := fun W => by
        rw [← List.append_assoc]
        exact str_add (by
        rw [List.length_append, b4_len, b4_len, AD.out, List.length_take]; omega) W
      have NX : Hid (strI (b4 l.length ++ ((l.take k).flatMap b4 ++ b4 y)) = strI (b4 l.length ++ (l.take (k + 1)).flatMap b4)) := Lib.hid (by rw [FT.out])
      go_wp2_with (go_at_call 48; refine (CF.out _ _ hx).mono ?_; rintro e w3 ⟨rfl, x3⟩; have X3 := Lib.hid (X.out.trans x3); clear x3)
      go_roundw
      case rel => exact ⟨k + 1, by omega, by go_num, by rw [NX.out], X3.out⟩
      case measure => simp [intOf] <;> omega
    · obtain rfl : k = l.length := by omega
      have EN : Hid (strI (b4 l.length ++ (l.take l.length).flatMap b4) = strI (encL l)) := Lib.hid (by rw [List.take_length]; rfl)
      go_wp2_with fail
      go_ret
      exact ⟨ret_str EN.out, X.out⟩
set_option maxRecDepth 100000 in
set_option maxHeartbeats 2000000 in
theorem dead_ {w : World} {x : WV} {W : PW} (h : WorldAt w x W) : Calls Tryz.prog 47 #[.agg (cellsW W x)] w fun e w' => e = .returned (.bool (W.dead.contains true)) ∧ Ext w w' := by
  obtain ⟨vL, fs, vD, vRe, vWa, vDu, vSn⟩ := x
  obtain ⟨A, c, ev, lc, lm⟩ := Row.form h.dead
  replace ev : vD = .slice A W.dead.length c := ev
  subst ev
  have HD := Lib.hid (show Row w (.slice A W.dead.length c) W.dead.length 1 (fun i _ => .bool (W.dead.getD i false)) from h.dead)
  have EC := Lib.hid (hasB_all W.dead)
  have AF := Lib.hid (allTo_false (fun j => !W.dead.getD j false) W.dead.length)
  have AS := Lib.hid (allTo_succ (fun j => !W.dead.getD j false))
  clear h
  unfold cellsW
  generalize W.dead.length = n at *
  generalize W.dead.contains true = res at *
  go_enter Tryz.func47, Tryz.ntmps47
  go_upto_region 1 with (fail)
  refine wp_name (fun w1 hw => ?_)
  have b0 := Blk.new' hw
  have x0 := (Ext.refl w).alloc' hw
  clear hw
  have B0 := Lib.hid b0
  have X0 := Lib.hid x0
  clear b0 x0
  generalize w.heap.size = q at *
  go_upto_region 1 with (fail)
  go_wp2_with fail
  go_loopw [3] (fun iv wr => ∃ k : Nat, k ≤ n ∧ iv = .int .i64 k ∧ allTo (fun j => !W.dead.getD j false) k = true ∧ wr = w1) (fun iv _ => n - (intOf iv).toNat)
  case atStart => exact ⟨0, Nat.zero_le _, rfl, rfl, rfl⟩
  case round =>
    obtain ⟨k, hk, rfl, ha, rfl⟩ := hrel
    obtain ⟨r1, r2, r3⟩ := B0.out.rules
    by_cases hlt : k < n
    · have kI : (k : Int) < (n : Int) := by omega
      obtain ⟨b, off, rfl, hb, hc⟩ := Row.at_ (HD.out.ext X0.out) k hlt
      obtain ⟨dk, hdk⟩ : ∃ d, W.dead.getD k false = d := ⟨_, rfl⟩
      have d0 : wr.cell? ⟨b, off + k, none⟩ = some (.bool dk) := by have := hc 0 (by omega); rw [Nat.mul_one, Nat.add_zero, hdk] at this; exact this
      clear hc
      have HDK := Lib.hid hdk
      have HA := Lib.hid ha
      clear hdk ha
      cases dk with
      | true =>
        have er : Hid (res = true) := Lib.hid (by rw [← EC.out, AF.out k hlt (by rw [HDK.out]; rfl)]; rfl)
        go_wp2_with fail
        go_ret
        exact ⟨ret_bool er.out.symm, X0.out⟩
      | false =>
        go_wp2_with fail
        go_roundw
        case rel => exact ⟨k + 1, by omega, by go_num, AS.out k HA.out (by rw [HDK.out]; rfl), by trivial⟩
        case measure => simp [intOf] <;> omega
    · have HA := Lib.hid ha
      clear ha
      obtain rfl : k = n := by omega
      have er : Hid (res = false) := Lib.hid (by rw [← EC.out, HA.out]; rfl)
      go_wp2_with fail
      go_ret
      exact ⟨ret_bool er.out.symm, X0.out⟩
end Go.Proofs.YtjpalcejmloocaaGreat.World
