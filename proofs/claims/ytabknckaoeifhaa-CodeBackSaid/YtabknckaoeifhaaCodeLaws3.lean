/-
  The walk of CodeAll (chapter 13).
-/
import Derived.Test.YtabknckaoeifhaaCodeLaws2
namespace Go.Proofs.Ytabknckaoeifhaa.Code
open Go.RowKit Go.Proofs.Ytabknckaoeifhaa.Plain
set_option linter.unusedVariables false

def rowL (zs : Nat → Nat → Int) : Nat → List Int
  | 0 => []
  | k + 1 => rowL zs k ++ [zs k 0, zs k 1, zs k 2]
theorem rowL_len (zs : Nat → Nat → Int) (k : Nat) : (rowL zs k).length = k * 3 := by
  induction k with
  | zero => rfl
  | succ k ih => simp [rowL, ih]; omega
theorem rowL_at (zs : Nat → Nat → Int) (n i j : Nat) (hi : i < n) (hj : j < 3) : (rowL zs n)[i * 3 + j]? = some (zs i j) := by
  induction n with
  | zero => omega
  | succ n ih =>
    unfold rowL
    by_cases h : i < n
    · rw [List.getElem?_append_left (by rw [rowL_len]; omega)]; exact ih h
    · obtain rfl : i = n := by omega
      rw [List.getElem?_append_right (by rw [rowL_len]; omega), rowL_len, show i * 3 + j - i * 3 = j from by omega]
      rcases j with _ | _ | _ | j
      · rfl
      · rfl
      · rfl
      · omega
theorem putL_row (zs : Nat → Nat → Int) (n : Nat) : putL zs n = rowL (fun i j => zs i j % 256) n := by
  induction n with
  | zero => rfl
  | succ n ih => unfold putL rowL; rw [ih]
theorem own_rows3 {w : World} {base : Nat} {e : TypeId} {v : Value} {n : Nat} {zs : Nat → Nat → Int} (h : w.ownsRow base e 3 v n ((rowL zs n).map (Value.int .i64))) :
    ∃ A c, v = .slice A n c ∧ Rows3 w A n zs := by
  rcases h.2 with ⟨rfl, rfl⟩ | ⟨g, cap, cur, rfl, hb, hg, hn, hcap, hsz, htake⟩
  · exact ⟨none, 0, rfl, fun i hi => absurd hi (Nat.not_lt_zero i)⟩
  · refine ⟨_, _, rfl, fun i hi => ⟨g, 0, rfl, (Array.getElem?_eq_some_iff.1 hg).1, ?_, ?_, ?_⟩⟩
    · have := h.cellAt (i * 3) (by omega)
      rw [Nat.zero_add, this, List.getElem?_map, show i * 3 = i * 3 + 0 from rfl, rowL_at zs n i 0 hi (by omega)]; rfl
    · have := h.cellAt (i * 3 + 1) (by omega)
      rw [Nat.zero_add, this, List.getElem?_map, rowL_at zs n i 1 hi (by omega)]; rfl
    · have := h.cellAt (i * 3 + 2) (by omega)
      rw [Nat.zero_add, this, List.getElem?_map, rowL_at zs n i 2 hi (by omega)]; rfl
theorem infoIns : (Try.prog.info? 27).map (fun i => (i.zero, i.size, i.bytes)) = some (some (.agg #[.int .i64 0, .int .i64 0, .int .i64 0]), 3, 24) := by kernel_rfl
theorem i64_one (x y z : Int) : ∀ u ∈ [Value.int .i64 x, .int .i64 y, .int .i64 z], u.oneCell' = true := by simp [Value.oneCell']
set_option maxRecDepth 100000 in
set_option maxHeartbeats 4000000 in
theorem all_core (s : ByteArray) (pc : Int) (a : Option Addr) (len cap : Nat) (zs : Nat → Nat → Int) (op : Int) (nm : ByteArray) (w : World) (hs : s.size ≤ 1000) (hl : len ≤ 200) (hr : Rows3 w a len zs) :
    Calls Try.prog 6 #[.string s, .int .i64 pc, .slice a len cap, .int .i64 op, .string nm] w fun e w' => e = .returned (.bool true) ∧ Below w.heap.size w w' := by
  obtain ⟨i0, hi, hz0, hz1, hz2⟩ := info_parts infoIns
  have d1 : decide (1000 < (s.size : Int)) = false := by simp; omega
  have d2 : decide (200 < (len : Int)) = false := by simp; omega
  have HR := Lib.hid hr
  clear hr
  obtain ⟨x0, x1, x2, ok, gs⟩ := got s pc
  have LS : Hid (s.size ≤ maxLen) := Lib.hid (by unfold maxLen; omega)
  go_enter Try.func6, Try.ntmps6
  go_wp2_with fail
  refine (cget_as _ LS.out gs).mono ?_
  rintro e w1 ⟨rfl, y1⟩
  go_wp2_with fail
  refine (rget_as _ LS.out gs).mono ?_
  rintro e w2 ⟨rfl, y2⟩
  have B1 := ((Blk.new w1 27 #[.int .i64 x0, .int .i64 x1, .int .i64 x2]).ext y2).alloc (.cells #[.int .i64 x0, .int .i64 x1, .int .i64 x2] 38)
  have B2 := Blk.new w2 38 #[.int .i64 x0, .int .i64 x1, .int .i64 x2]
  have xx : Ext w (w2.alloc (.cells #[.int .i64 x0, .int .i64 x1, .int .i64 x2] 38)) := ((y1.alloc _).trans y2).alloc _
  go_wp2_with fail
  generalize w2.alloc (.cells #[.int .i64 x0, .int .i64 x1, .int .i64 x2] 38) = W0 at B1 B2 xx ⊢
  generalize w1.heap.size = g1 at B1 ⊢
  generalize w2.heap.size = g2 at B2 ⊢
  go_loopw [15, 16] (fun v i wr => ∃ k : Nat, k ≤ len ∧ i = .int .i64 k ∧ wr.ownsRow W0.heap.size 27 3 v k ((rowL zs k).map (Value.int .i64)) ∧ Ext W0 wr) (fun _ i _ => len - (intOf i).toNat)
  case atStart => exact ⟨0, Nat.zero_le _, rfl, World.ownsRow_nil _ _ _ _, Ext.refl _⟩
  case round =>
    obtain ⟨k, hk, rfl, ho, hx⟩ := hrel
    by_cases hlt : k < len
    · obtain ⟨b, off, rfl, hb, c0, c1, c2⟩ := HR.out k hlt
      have hxx := xx.trans hx
      have c0' := hxx.below.cell (p := ⟨b, off + k * 3, none⟩) hb
      have c1' := hxx.below.cell (p := ⟨b, off + k * 3 + 1, none⟩) hb
      have c2' := hxx.below.cell (p := ⟨b, off + k * 3 + 2, none⟩) hb
      rw [c0] at c0'
      rw [c1] at c1'
      rw [c2] at c2'
      clear c0 c1 c2
      have hs0 := xx.below.size
      have hs1 := hx.below.size
      have ZS : Hid (rowL zs (k + 1) = rowL zs k ++ [zs k 0, zs k 1, zs k 2]) := rfl
      generalize zs k 0 = z0 at c0' ZS
      generalize zs k 1 = z1 at c1' ZS
      generalize zs k 2 = z2 at c2' ZS
      have kk : (k : Int) < (len : Int) := by omega
      have hbw : b < wr.heap.size := by omega
      obtain ⟨A, c, rfl⟩ := own_slice ho
      have far : some b ≠ (Value.slice A k c).ownBlock := fun h => by have := (ho.lt b h.symm).1; omega
      have FAR := Lib.hid far
      clear far
      go_wp2
      go_region_held3 (fun w' => w'.cell? ⟨b, off + k * 3, none⟩ = some (.int .i64 z0) ∧ w'.cell? ⟨b, off + k * 3 + 1, none⟩ = some (.int .i64 z1) ∧ w'.cell? ⟨b, off + k * 3 + 2, none⟩ = some (.int .i64 z2)) (first | go_keep | exact ⟨(g3.cell_far _ (by simp; omega) FAR.out).trans ((cell_old wr.drew _ b _ hbw).trans c0'), (g3.cell_far _ (by simp; omega) FAR.out).trans ((cell_old wr.drew _ b _ hbw).trans c1'), (g3.cell_far _ (by simp; omega) FAR.out).trans ((cell_old wr.drew _ b _ hbw).trans c2')⟩) ((refine step_append_lies _ (by rfl) _ _ _ (by rfl) W0.heap.size 27 i0 (.agg #[.int .i64 0, .int .i64 0, .int .i64 0]) 3 24 Try.underlying41 hi hz0 hz1 hz2 rfl (by decide) _ _ _ (by rfl) ((ho : wr.drew.ownsRow _ _ _ _ _ _).alloc _) ⟨wr.heap.size, 0, none⟩ 1 1 [.int .i64 z0, .int .i64 z1, .int .i64 z2] (by rfl) (by rfl) (news3 wr.drew _ _ _ _) (i64_one _ _ _) (by omega) (by unfold maxLen; omega) (by omega) (by simp; omega) (wr.heap.size + 1) (by simp) ?_; intro gg cc w3 o3 g3 hat hlt3))
      go_wp2
      go_roundw
      case rel =>
        exact ⟨k + 1, by omega, by go_num, by rw [ZS.out]; simpa using o3, grown_ext (hx.drew.alloc _) ((ho : wr.drew.ownsRow _ _ _ _ _ _).alloc _) g3 (Nat.le_refl _)⟩
      case measure => simp [intOf]; omega
    · obtain rfl : k = len := by omega
      obtain ⟨A, c, rfl, r3⟩ := own_rows3 ho
      obtain ⟨q1, q2, q3⟩ := (B1.ext hx).rules
      obtain ⟨p1, p2, p3⟩ := (B2.ext hx).rules
      have bo : (ok == ok) = true := by simp
      have R3 := Lib.hid r3
      clear r3
      go_wp2_with fail
      refine (cput _ _ _ _ _ (by omega) R3.out).mono ?_
      rintro e w4 ⟨rfl, y4⟩
      go_wp2_with fail
      have hra : Rows3 w4 a k zs := fun i hi => by
        obtain ⟨b, off, e1, e2, e3, e4, e5⟩ := HR.out i hi
        have hb4 := ((xx.trans hx).trans y4).below
        exact ⟨b, off, e1, by have := hb4.size; omega, (hb4.cell (p := ⟨b, _, none⟩) e2).trans e3, (hb4.cell (p := ⟨b, _, none⟩) e2).trans e4, (hb4.cell (p := ⟨b, _, none⟩) e2).trans e5⟩
      refine (rput _ _ _ _ _ (by omega) hra).mono ?_
      rintro e w5 ⟨rfl, y5⟩
      clear hra
      have bs : ((putS zs k).toList == (putS zs k).toList) = true := by simp
      generalize putS zs k = ps at bs ⊢
      go_wp2_with fail
      refine (clen_as _ LS.out rfl).mono ?_
      rintro e w' ⟨rfl, rfl⟩
      go_wp2_with fail
      refine (name _ _).mono ?_
      rintro e w6 ⟨rfl, y6⟩
      go_wp2_with fail
      refine (rname _ _).mono ?_
      rintro e w7 ⟨rfl, y7⟩
      have bn : ((nameB op).toList == (nameB op).toList) = true := by simp
      generalize nameB op = nb at bn ⊢
      go_wp2_with fail
      refine (cop _ _).mono ?_
      rintro e w8 ⟨rfl, y8⟩
      go_wp2_with fail
      refine (rop _ _).mono ?_
      rintro e w9 ⟨rfl, y9⟩
      go_wp2_with fail
      refine (awake _).mono ?_
      rintro e w10 ⟨rfl, y10⟩
      go_wp2_with fail
      go_ret
      exact ⟨rfl, ((((((((xx.trans hx).trans y4).trans y5).trans y6).trans y7).trans y8).trans y9).trans y10).below⟩
set_option maxHeartbeats 1000000 in
theorem codeAll {H : Type} {enc : TypeId × Value → H} {r : Reach} {u0 u2 u4 : Nat} {d0 d2 d4 : DataW H} {p0 p2 p4 : List MemPlace} (v0 : Value) (a1 : Int) (v2 : Value) (a3 : Int) (v4 : Value) (w : World)
    (hv0 : Value.okWide Try.prog w r u0 9 v0) (h0 : DataW.Trod enc Try.prog w 0 (fun _ => true) true 9 v0 d0 p0) (w1 : (Lit.int .i64 a1).wf = true)
    (hv2 : Value.okWide Try.prog w r u2 37 v2) (h2 : DataW.Trod enc Try.prog w 0 (fun _ => true) true 37 v2 d2 p2) (w3 : (Lit.int .i64 a3).wf = true)
    (hv4 : Value.okWide Try.prog w r u4 9 v4) (h4 : DataW.Trod enc Try.prog w 0 (fun _ => true) true 9 v4 d4 p4) :
    Calls Try.prog 6 #[v0, .int .i64 a1, v2, .int .i64 a3, v4] w fun e w' => e = .returned (.bool true) ∧ Below w.heap.size w w' := by
  obtain ⟨s, rfl, hs⟩ := Shell.open_str Try.underlying9 hv0 h0
  obtain ⟨nm, rfl, hnm⟩ := Shell.open_str Try.underlying9 hv4 h4
  obtain ⟨a, len, cap, zs, rfl, hl, hn⟩ := Shell.open_nums Try.underlying37 Try.underlying38 (by kernel_rfl) (by kernel_rfl) (fun _ => .i64) (fun j f hj => by
    rcases j with _ | _ | _ | j <;> simp at hj <;> subst hj <;> exact Try.underlying3) (by decide) hv2 h2
  unfold maxLen at hs hl
  have r3 : Rows3 w a len zs := fun i hi => by
    obtain ⟨b, off, e1, e2, e3⟩ := hn i hi
    exact ⟨b, off, e1, e2, (e3 0 (by decide)).1, (e3 1 (by decide)).1, (e3 2 (by decide)).1⟩
  clear hn hv0 h0 hv2 h2 hv4 h4
  by_cases h : s.size ≤ 1000
  · by_cases h' : len ≤ 200
    · exact all_core s a1 a len cap zs a3 nm w h h' r3
    · have d1 : decide (1000 < (s.size : Int)) = false := by simp; omega
      have d2 : decide (200 < (len : Int)) = true := by simp; omega
      clear r3
      go_enter Try.func6, Try.ntmps6
      go_wp2_with fail
      refine (awake _).mono ?_
      rintro e w3 ⟨rfl, y3⟩
      go_wp2_with fail
      go_ret
      exact ⟨rfl, y3.below⟩
  · have d1 : decide (1000 < (s.size : Int)) = true := by simp; omega
    clear r3
    go_enter Try.func6, Try.ntmps6
    go_wp2_with fail
    refine (awake _).mono ?_
    rintro e w3 ⟨rfl, y3⟩
    go_wp2_with fail
    go_ret
    exact ⟨rfl, y3.below⟩
end Go.Proofs.Ytabknckaoeifhaa.Code
