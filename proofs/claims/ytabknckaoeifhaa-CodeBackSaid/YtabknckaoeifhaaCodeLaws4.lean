/-
  The walk of CodeBack (chapter 13).
-/
import Derived.Test.YtabknckaoeifhaaCodeLaws3
namespace Go.Proofs.Ytabknckaoeifhaa.Code
open Go.RowKit Go.Proofs.Ytabknckaoeifhaa.Plain
set_option linter.unusedVariables false

theorem put_size (zs : Nat → Nat → Int) (n : Nat) : (putS zs n).size = 3 * n := by unfold putS; rw [strOfNums_size, putL_len]
theorem put_byte (zs : Nat → Nat → Int) (n i j : Nat) (hi : i < n) (hj : j < 3) : byteI (putS zs n) (3 * i + j) = zs i j % 256 := by
  unfold byteI putS
  rw [strOfNums_data, List.getD_eq_getElem?_getD, List.getElem?_map, putL_row, show 3 * i + j = i * 3 + j from by omega, rowL_at _ n i j hi hj]
  simp only [Option.map_some, Option.getD_some]
  rw [UInt8.toNat_ofNat']
  omega
theorem got_put {zs : Nat → Nat → Int} {n i : Nat} (more : ByteArray) (hm : more.size ≤ 2) (hi : i < n) (hz : ∀ j, j < 3 → 0 ≤ zs i j ∧ zs i j < 256) : Got (putS zs n ++ more) i (zs i 0) (zs i 1) (zs i 2) true := by
  refine got_app_lo (k := n) (put_size zs n) (by omega) ?_
  have h : 0 ≤ (i : Int) ∧ (i : Int) < (((putS zs n).size / 3 : Nat) : Int) := by rw [put_size]; omega
  have e : ∀ j, j < 3 → getB (putS zs n) i j = zs i j := fun j hj => by
    unfold getB
    rw [if_pos h, Int.toNat_natCast, put_byte zs n i j hi hj]
    have := hz j hj
    omega
  exact ⟨e 0 (by omega), e 1 (by omega), e 2 (by omega), by unfold getO; exact decide_eq_true h⟩
theorem put_len {zs : Nat → Nat → Int} {n : Nat} (more : ByteArray) (hm : more.size ≤ 2) : ((((putS zs n ++ more).size) / 3 : Nat) : Int) = (n : Int) := by
  rw [ByteArray.size_append, put_size]; omega
set_option maxRecDepth 100000 in
set_option maxHeartbeats 4000000 in
theorem back_core (a : Option Addr) (len cap : Nat) (z : Nat → Int) (more : ByteArray) (w : World) (hl : len ≤ 90) (hm : more.size ≤ 2)
    (hr : ∀ i, i < len → ∃ b off, a = some ⟨b, off, none⟩ ∧ b < w.heap.size ∧ w.cell? ⟨b, off + i, none⟩ = some (.int .i64 (z i)) ∧ -9223372036854775808 ≤ z i ∧ z i ≤ 9223372036854775807) :
    Calls Try.prog 7 #[.slice a len cap, .string more] w fun e w' => e = .returned (.bool true) ∧ Below w.heap.size w w' := by
  obtain ⟨i0, hi, hz0, hz1, hz2⟩ := info_parts infoIns
  have d1 : decide (90 < (len : Int)) = false := by simp; omega
  have d2 : decide (2 < (more.size : Int)) = false := by simp; omega
  have HR := Lib.hid hr
  clear hr
  obtain ⟨zs, hzs⟩ : ∃ zs : Nat → Nat → Int, zs = fun i j => z (3 * i + j) % 256 := ⟨_, rfl⟩
  have HZ : Hid (∀ i j, 0 ≤ zs i j ∧ zs i j < 256) := Lib.hid (fun i j => by rw [hzs]; show 0 ≤ z _ % 256 ∧ z _ % 256 < 256; omega)
  have ZE : Hid (∀ i j, zs i j = z (3 * i + j) % 256) := Lib.hid (fun i j => by rw [hzs])
  clear hzs
  go_enter Try.func7, Try.ntmps7
  go_wp2_with fail
  go_loopw [5, 6] (fun v i wr => ∃ k : Nat, 3 * k ≤ len + 2 ∧ i = .int .i64 (3 * (k : Int)) ∧ wr.ownsRow w.heap.size 27 3 v k ((rowL zs k).map (Value.int .i64)) ∧ Ext w wr) (fun _ i _ => len + 3 - (intOf i).toNat)
  case atStart => exact ⟨0, by omega, rfl, World.ownsRow_nil _ _ _ _, Ext.refl _⟩
  case round =>
    obtain ⟨k, hk, rfl, ho, hx⟩ := hrel
    by_cases hlt : 3 * k + 2 < len
    · obtain ⟨b, off, rfl, hb, c0, b01, b02⟩ := HR.out (3 * k) (by omega)
      obtain ⟨b', off', eb, hb', c1, b11, b12⟩ := HR.out (3 * k + 1) (by omega)
      obtain ⟨b'', off'', eb', hb'', c2, b21, b22⟩ := HR.out (3 * k + 2) (by omega)
      obtain ⟨rfl, rfl⟩ : b = b' ∧ off = off' := by injection eb with eb; injection eb with e1 e2; exact ⟨e1, e2⟩
      obtain ⟨rfl, rfl⟩ : b = b'' ∧ off = off'' := by injection eb' with eb; injection eb with e1 e2; exact ⟨e1, e2⟩
      clear eb eb' hb' hb''
      have c0' := hx.below.cell (p := ⟨b, off + 3 * k, none⟩) hb
      have c1' := hx.below.cell (p := ⟨b, off + (3 * k + 1), none⟩) hb
      have c2' := hx.below.cell (p := ⟨b, off + (3 * k + 2), none⟩) hb
      rw [c0] at c0'
      rw [c1] at c1'
      rw [c2] at c2'
      clear c0 c1 c2
      have hs1 := hx.below.size
      have ZS : Hid (rowL zs (k + 1) = rowL zs k ++ [z (3 * k) % 256, z (3 * k + 1) % 256, z (3 * k + 2) % 256]) := by
        have : rowL zs (k + 1) = rowL zs k ++ [zs k 0, zs k 1, zs k 2] := rfl
        rw [this, ZE.out, ZE.out, ZE.out]; rfl
      generalize z (3 * k) = z0 at c0' ZS b01 b02
      generalize z (3 * k + 1) = z1 at c1' ZS b11 b12
      generalize z (3 * k + 2) = z2 at c2' ZS b21 b22
      have kk0 : 3 * (k : Int) < (len : Int) := by omega
      have kk1 : 3 * (k : Int) + 1 < (len : Int) := by omega
      have kk2 : 3 * (k : Int) + 2 < (len : Int) := by omega
      have kz0 : 0 ≤ 3 * (k : Int) := by omega
      have kz1 : 0 ≤ 3 * (k : Int) + 1 := by omega
      have kz2 : 0 ≤ 3 * (k : Int) + 2 := by omega
      have kn0 : (3 * (k : Int)).toNat = 3 * k := by omega
      have kn1 : (3 * (k : Int) + 1).toNat = 3 * k + 1 := by omega
      have kn2 : (3 * (k : Int) + 2).toNat = 3 * k + 2 := by omega
      have hbw : b < wr.heap.size := by omega
      obtain ⟨A, c, rfl⟩ := own_slice ho
      have far : some b ≠ (Value.slice A k c).ownBlock := fun h => by have := (ho.lt b h.symm).1; omega
      have FAR := Lib.hid far
      clear far
      go_wp2
      have wr1 : IntKind.i64.wrap (3 * (k : Int) + 1) = 3 * (k : Int) + 1 := IntWalk.i64_in _ (by omega)
      have wr2 : IntKind.i64.wrap (3 * (k : Int) + 2) = 3 * (k : Int) + 2 := IntWalk.i64_in _ (by omega)
      go_region_held3 (fun w' => w'.cell? ⟨b, off + 3 * k, none⟩ = some (.int .i64 z0) ∧ w'.cell? ⟨b, off + (3 * k + 1), none⟩ = some (.int .i64 z1) ∧ w'.cell? ⟨b, off + (3 * k + 2), none⟩ = some (.int .i64 z2)) (first | go_keep | exact ⟨(g3.cell_far _ (by simp; omega) FAR.out).trans ((cell_old wr.drew _ b _ hbw).trans c0'), (g3.cell_far _ (by simp; omega) FAR.out).trans ((cell_old wr.drew _ b _ hbw).trans c1'), (g3.cell_far _ (by simp; omega) FAR.out).trans ((cell_old wr.drew _ b _ hbw).trans c2')⟩) (first | (go_at_call 19; refine (Word.place _ _ _ (by omega) (by omega) (by omega) (by omega)).mono ?_; rintro e w' ⟨rfl, rfl⟩) | (refine step_append_lies _ (by rfl) _ _ _ (by rfl) w.heap.size 27 i0 (.agg #[.int .i64 0, .int .i64 0, .int .i64 0]) 3 24 Try.underlying41 hi hz0 hz1 hz2 rfl (by decide) _ _ _ (by rfl) ((ho : wr.drew.ownsRow _ _ _ _ _ _).alloc _) ⟨wr.heap.size, 0, none⟩ 1 1 [.int .i64 (z0 % 256), .int .i64 (z1 % 256), .int .i64 (z2 % 256)] (by rfl) (by rfl) (news3 wr.drew _ _ _ _) (i64_one _ _ _) (by omega) (by unfold maxLen; omega) (by omega) (by simp; omega) (wr.heap.size + 1) (by simp) ?_; intro gg cc w3 o3 g3 hat hlt3))
      clear wr1 wr2
      go_wp2
      go_roundw
      case rel =>
        exact ⟨k + 1, by omega, by go_num, by rw [ZS.out]; simpa using o3, grown_ext (hx.drew.alloc _) ((ho : wr.drew.ownsRow _ _ _ _ _ _).alloc _) g3 (Nat.le_refl _)⟩
      case measure => simp [intOf]; omega
    · obtain ⟨A, c, rfl, r3⟩ := own_rows3 ho
      have R3 := Lib.hid r3
      clear r3
      have kle : k ≤ 31 := by omega
      go_wp2_with fail
      refine (cput _ _ _ _ _ (by omega) R3.out).mono ?_
      rintro e w4 ⟨rfl, y4⟩
      have hadd : ∀ W : World, Sem.run Try.prog (Op.stringOp .add (putS zs k) more) W = .ok (.string (putS zs k ++ more)) W := fun W => run_string_add_sum W _ _ (by rw [put_size]; omega)
      have LS : Hid ((putS zs k ++ more).size ≤ maxLen) := Lib.hid (by rw [ByteArray.size_append, put_size]; unfold maxLen; omega)
      have GI : Hid (∀ i, i < k → Got (putS zs k ++ more) (i : Int) (zs i 0) (zs i 1) (zs i 2) true) := Lib.hid (fun i hi => got_put more hm hi (fun j _ => HZ.out i j))
      have G1 : Got (putS zs k ++ more) (k : Int) 0 0 0 false := got_no (.inr (by rw [put_len more hm]; omega))
      have G2 : Got (putS zs k ++ more) (-1) 0 0 0 false := got_no (.inl (by omega))
      have PL := Lib.hid (put_len (zs := zs) (n := k) more hm)
      generalize putS zs k ++ more = S at hadd LS GI G1 G2 PL
      generalize putS zs k = ps at hadd ⊢
      go_wp2_with fail
      refine (clen_as _ LS.out PL.out).mono ?_
      rintro e w' ⟨rfl, rfl⟩
      go_wp2_with fail
      clear hadd
      go_loopw [8] (fun i wq => ∃ j : Nat, j ≤ k ∧ i = .int .i64 (j : Int) ∧ Ext w4 wq) (fun i _ => k - (intOf i).toNat)
      case atStart => exact ⟨0, by omega, rfl, Ext.refl _⟩
      case round =>
        obtain ⟨j, hj, rfl, hq⟩ := hrel
        by_cases hlt2 : j < k
        · obtain ⟨b, off, rfl, hb, c0, c1, c2⟩ := R3.out j hlt2
          have gj := GI.out j hlt2
          go_wp2_with fail
          refine (cget_as _ LS.out gj).mono ?_
          rintro e w5 ⟨rfl, y5⟩
          have hb5 := ((y4.trans hq).trans y5).below
          have c0' := (hb5.cell (p := ⟨b, off + j * 3, none⟩) hb).trans c0
          have c1' := (hb5.cell (p := ⟨b, off + j * 3 + 1, none⟩) hb).trans c1
          have c2' := (hb5.cell (p := ⟨b, off + j * 3 + 2, none⟩) hb).trans c2
          have hbs : b < w5.heap.size := by have := hb5.size; omega
          clear c0 c1 c2
          generalize zs j 0 = z0 at c0' ⊢
          generalize zs j 1 = z1 at c1' ⊢
          generalize zs j 2 = z2 at c2' ⊢
          have jj : (j : Int) < (k : Int) := by omega
          go_wp2_with fail
          go_quiet (fail)
          go_wp2_with fail
          go_roundw
          case rel => exact ⟨j + 1, by omega, by go_num, ((hq.trans y5).alloc _).drewN _⟩
          case measure => simp [intOf]; omega
        · obtain rfl : j = k := by omega
          go_wp2_with fail
          refine (cget_as _ LS.out G1).mono ?_
          rintro e w5 ⟨rfl, y5⟩
          go_wp2_with fail
          refine (cget_as _ LS.out G2).mono ?_
          rintro e w6 ⟨rfl, y6⟩
          go_wp2_with fail
          refine (awake _).mono ?_
          rintro e w7 ⟨rfl, y7⟩
          go_wp2_with fail
          go_ret
          exact ⟨rfl, (((((((hx.trans y4).trans hq).trans y5).alloc _).trans y6).alloc _).trans y7).below⟩
theorem codeBack {H : Type} {enc : TypeId × Value → H} {r : Reach} {u0 u1 : Nat} {d0 d1 : DataW H} {p0 p1 : List MemPlace} (v0 v1 : Value) (w : World)
    (hv0 : Value.okWide Try.prog w r u0 45 v0) (h0 : DataW.Trod enc Try.prog w 0 (fun _ => true) true 45 v0 d0 p0)
    (hv1 : Value.okWide Try.prog w r u1 9 v1) (h1 : DataW.Trod enc Try.prog w 0 (fun _ => true) true 9 v1 d1 p1) :
    Calls Try.prog 7 #[v0, v1] w fun e w' => e = .returned (.bool true) ∧ Below w.heap.size w w' := by
  obtain ⟨more, rfl, hm⟩ := Shell.open_str Try.underlying9 hv1 h1
  obtain ⟨a, len, cap, z, rfl, hl, hn⟩ := Shell.open_ints Try.underlying45 Try.underlying3 (by kernel_rfl) hv0 h0
  unfold maxLen at hm hl
  clear hv0 h0 hv1 h1
  by_cases h : len ≤ 90
  · by_cases h' : more.size ≤ 2
    · exact back_core a len cap z more w h h' hn
    · have d1 : decide (90 < (len : Int)) = false := by simp; omega
      have d2 : decide (2 < (more.size : Int)) = true := by simp; omega
      clear hn
      go_enter Try.func7, Try.ntmps7
      go_wp2_with fail
      refine (awake _).mono ?_
      rintro e w3 ⟨rfl, y3⟩
      go_wp2_with fail
      go_ret
      exact ⟨rfl, y3.below⟩
  · have d1 : decide (90 < (len : Int)) = true := by simp; omega
    clear hn
    go_enter Try.func7, Try.ntmps7
    go_wp2_with fail
    refine (awake _).mono ?_
    rintro e w3 ⟨rfl, y3⟩
    go_wp2_with fail
    go_ret
    exact ⟨rfl, y3.below⟩
end Go.Proofs.Ytabknckaoeifhaa.Code
