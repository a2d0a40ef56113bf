/-
  Contracts of Len, Get and Put of package code, and of the document's answer (chapter 13).
-/
import Derived.Test.YtabknckaoeifhaaCode
import Derived.RegionTactic
import Derived.ChangeAlike
import Derived.WalkSpells
import Derived.Lib.IndexBytes
import Derived.OwnWalk
import Derived.Laws.OwnMore
import Derived.Laws.BytesArg
import Derived.Deep.RegionHeld3
import Derived.Deep.AppendLies
namespace Go.Proofs.Ytabknckaoeifhaa.Code
open Go.RowKit Go.Proofs.Ytabknckaoeifhaa.Plain
set_option linter.unusedVariables false

def byteI (s : ByteArray) (i : Nat) : Int := ((s.data.toList.getD i 0).toNat : Int)
theorem w64b (b : UInt8) : wrap64 (b.toNat : Int) = (b.toNat : Int) := by have := b.toNat_lt; exact IntWalk.wrap64_in _ ⟨by omega, by omega⟩
theorem ext_byte {s b : ByteArray} {n : Nat} (hb : b = s.extract n s.size) (j : Nat) (hj : j < b.size) : byteI s (n + j) = (b[j].toNat : Int) := by
  subst hb
  unfold byteI
  have hn : n + j < s.size := by simp at hj; omega
  have e1 := Lib.extract_to_end s n
  have e2 : (s.extract n s.size)[j] = (s.extract n s.size).data.toList[j]'(by simpa using hj) := rfl
  rw [e2]
  simp only [e1, List.getElem_drop]
  rw [List.getD_eq_getElem?_getD, List.getElem?_eq_getElem (by simpa using hn)]
  rfl
theorem clen (w : World) (s : ByteArray) (h : s.size ≤ maxLen) : Calls Try.prog 20 #[.string s] w fun e w' => e = .returned (.int .i64 ((s.size / 3 : Nat) : Int)) ∧ w = w' := by
  unfold maxLen at h
  go_enter Try.func20, Try.ntmps20
  go_wp2
  go_ret
  exact ⟨ret_int (by omega), rfl⟩
theorem cget_lo (w : World) (s : ByteArray) (h : s.size ≤ maxLen) (pc : Int) (hp : pc < 0) :
    Calls Try.prog 21 #[.string s, .int .i64 pc] w fun e w' => e = .returned (.tuple #[.agg #[.int .i64 0, .int .i64 0, .int .i64 0], .bool false]) ∧ Ext w w' := by
  unfold maxLen at h
  have d1 : decide (pc < 0) = true := by simpa using hp
  go_enter Try.func21, Try.ntmps21
  go_wp2
  exact bodyPost_ret (v := .tuple #[.agg #[.int .i64 0, .int .i64 0, .int .i64 0], .bool false]) (by simp [results, Try.results21, go_sem]) rfl ⟨rfl, (Ext.refl _).alloc _⟩
theorem cget_hi (w : World) (s : ByteArray) (h : s.size ≤ maxLen) (pc : Int) (hp : ((s.size / 3 : Nat) : Int) ≤ pc) :
    Calls Try.prog 21 #[.string s, .int .i64 pc] w fun e w' => e = .returned (.tuple #[.agg #[.int .i64 0, .int .i64 0, .int .i64 0], .bool false]) ∧ Ext w w' := by
  have d1 : decide (pc < 0) = false := by simp; omega
  have d2 : decide (((s.size / 3 : Nat) : Int) ≤ pc) = true := by simpa using hp
  go_enter Try.func21, Try.ntmps21
  go_wp2_with (go_at_call 20; refine (clen _ _ h).mono ?_; rintro e w' ⟨rfl, rfl⟩)
  exact bodyPost_ret (v := .tuple #[.agg #[.int .i64 0, .int .i64 0, .int .i64 0], .bool false]) (by simp [results, Try.results21, go_sem]) rfl ⟨rfl, (Ext.refl _).alloc _⟩
theorem cget_in (w : World) (s : ByteArray) (h : s.size ≤ maxLen) (k : Nat) (hp : 3 * k + 3 ≤ s.size) :
    Calls Try.prog 21 #[.string s, .int .i64 k] w fun e w' => e = .returned (.tuple #[.agg #[.int .i64 (byteI s (3 * k)), .int .i64 (byteI s (3 * k + 1)), .int .i64 (byteI s (3 * k + 2))], .bool true]) ∧ Ext w w' := by
  have h' := h
  unfold maxLen at h'
  have d1 : decide ((k : Int) < 0) = false := by simp
  have d2 : decide (((s.size / 3 : Nat) : Int) ≤ k) = false := by simp; omega
  have d3 : decide ((s.size / 3 : Nat) ≤ k) = false := by simp; omega
  go_enter Try.func21, Try.ntmps21
  go_wp2_with (go_at_call 20; refine (clen _ _ h).mono ?_; rintro e w' ⟨rfl, rfl⟩)
  obtain ⟨b, hb⟩ : ∃ b, b = s.extract (3 * k) s.size := ⟨_, rfl⟩
  have hsz : b.size = s.size - 3 * k := by rw [hb]; simp
  have b0 : 0 < b.size := by omega
  have b1 : 1 < b.size := by omega
  have b2 : 2 < b.size := by omega
  have c1 : (1 : Int) < (b.size : Int) := by omega
  have c2 : (2 : Int) < (b.size : Int) := by omega
  have HB := Lib.hid (ext_byte hb)
  clear hsz h' h hp d1 d2 d3
  rw [← hb]
  clear hb
  go_region
  go_wp2
  refine bodyPost_ret (v := .tuple #[.agg #[.int .i64 (b[0].toNat : Int), .int .i64 (b[1].toNat : Int), .int .i64 (b[2].toNat : Int)], .bool true]) (by simp [results, Try.results21, go_sem, w64b]) rfl ⟨?_, ?_⟩
  · rw [← HB.out 0 b0, ← HB.out 1 b1, ← HB.out 2 b2]; rfl
  · exact ((Ext.refl _).alloc _).drew
def getV (s : ByteArray) (pc : Int) : Value := if 0 ≤ pc ∧ pc < ((s.size / 3 : Nat) : Int) then .tuple #[.agg #[.int .i64 (byteI s (3 * pc.toNat)), .int .i64 (byteI s (3 * pc.toNat + 1)), .int .i64 (byteI s (3 * pc.toNat + 2))], .bool true]
  else .tuple #[.agg #[.int .i64 0, .int .i64 0, .int .i64 0], .bool false]
theorem rget_lo (w : World) (s : ByteArray) (h : s.size ≤ maxLen) (pc : Int) (hp : pc < 0) :
    Calls Try.prog 24 #[.string s, .int .i64 pc] w fun e w' => e = .returned (.tuple #[.agg #[.int .i64 0, .int .i64 0, .int .i64 0], .bool false]) ∧ Ext w w' := by
  unfold maxLen at h
  have d1 : decide (pc < 0) = true := by simpa using hp
  go_enter Try.func24, Try.ntmps24
  go_wp2
  exact bodyPost_ret (v := .tuple #[.agg #[.int .i64 0, .int .i64 0, .int .i64 0], .bool false]) (by simp [results, Try.results24, go_sem]) rfl ⟨rfl, (Ext.refl _).alloc _⟩
theorem rget_hi (w : World) (s : ByteArray) (h : s.size ≤ maxLen) (pc : Int) (hp : ((s.size / 3 : Nat) : Int) ≤ pc) :
    Calls Try.prog 24 #[.string s, .int .i64 pc] w fun e w' => e = .returned (.tuple #[.agg #[.int .i64 0, .int .i64 0, .int .i64 0], .bool false]) ∧ Ext w w' := by
  unfold maxLen at h
  have d1 : decide (pc < 0) = false := by simp; omega
  have d2 : decide ((s.size : Int) / 3 ≤ pc) = true := by simp; omega
  go_enter Try.func24, Try.ntmps24
  go_wp2
  exact bodyPost_ret (v := .tuple #[.agg #[.int .i64 0, .int .i64 0, .int .i64 0], .bool false]) (by simp [results, Try.results24, go_sem]) rfl ⟨rfl, (Ext.refl _).alloc _⟩
theorem byteI_at (s : ByteArray) (i : Nat) (h : i < s.size) : byteI s i = (s[i].toNat : Int) := by
  unfold byteI
  rw [List.getD_eq_getElem?_getD, List.getElem?_eq_getElem (by simpa using h)]
  rfl
theorem rget_in (w : World) (s : ByteArray) (h : s.size ≤ maxLen) (k : Nat) (hp : 3 * k + 3 ≤ s.size) :
    Calls Try.prog 24 #[.string s, .int .i64 k] w fun e w' => e = .returned (.tuple #[.agg #[.int .i64 (byteI s (3 * k)), .int .i64 (byteI s (3 * k + 1)), .int .i64 (byteI s (3 * k + 2))], .bool true]) ∧ Ext w w' := by
  have h' := h
  unfold maxLen at h'
  have d1 : decide ((k : Int) < 0) = false := by simp
  have d2 : decide ((s.size : Int) / 3 ≤ k) = false := by simp; omega
  have b0 : 3 * k < s.size := by omega
  have b1 : 3 * k + 1 < s.size := by omega
  have b2 : 3 * k + 2 < s.size := by omega
  have HB := Lib.hid (byteI_at s)
  have c0 : 3 * (k : Int) < (s.size : Int) := by omega
  have c1 : 3 * (k : Int) + 1 < (s.size : Int) := by omega
  have c2 : 3 * (k : Int) + 2 < (s.size : Int) := by omega
  have z0 : 0 ≤ 3 * (k : Int) := by omega
  have z1 : 0 ≤ 3 * (k : Int) + 1 := by omega
  have z2 : 0 ≤ 3 * (k : Int) + 2 := by omega
  have n1 : (3 * (k : Int) + 1).toNat = 3 * k + 1 := by omega
  have n2 : (3 * (k : Int) + 2).toNat = 3 * k + 2 := by omega
  go_enter Try.func24, Try.ntmps24
  go_wp2
  go_region
  go_wp2
  refine bodyPost_ret (v := .tuple #[.agg #[.int .i64 (s[3 * k].toNat : Int), .int .i64 (s[3 * k + 1].toNat : Int), .int .i64 (s[3 * k + 2].toNat : Int)], .bool true]) (by simp [results, Try.results24, go_sem, w64b]) rfl ⟨?_, ?_⟩
  · rw [← HB.out _ b0, ← HB.out _ b1, ← HB.out _ b2]
  · exact ((Ext.refl _).alloc _).drew

/-! ### Put -/
def putL (zs : Nat → Nat → Int) : Nat → List Int
  | 0 => []
  | k + 1 => putL zs k ++ [zs k 0 % 256, zs k 1 % 256, zs k 2 % 256]
theorem putL_len (zs : Nat → Nat → Int) (k : Nat) : (putL zs k).length = 3 * k := by
  induction k with
  | zero => rfl
  | succ k ih => simp [putL, ih]; omega
def putS (zs : Nat → Nat → Int) (n : Nat) : ByteArray := strOfNums (putL zs n)
/-- a slice of structs of three numbers -/
def Rows3 (w : World) (a : Option Addr) (len : Nat) (zs : Nat → Nat → Int) : Prop :=
  ∀ i, i < len → ∃ b off, a = some ⟨b, off, none⟩ ∧ b < w.heap.size ∧ w.cell? ⟨b, off + i * 3, none⟩ = some (.int .i64 (zs i 0)) ∧ w.cell? ⟨b, off + i * 3 + 1, none⟩ = some (.int .i64 (zs i 1)) ∧ w.cell? ⟨b, off + i * 3 + 2, none⟩ = some (.int .i64 (zs i 2))
theorem info8 : (Try.prog.info? 5).map (fun i => (i.zero, i.size, i.bytes)) = some (some (.int .u8 0), 1, 1) := by kernel_rfl
theorem news3 (W : World) (x y z : Value) (t : TypeId) : ∀ j u, [x, y, z][j]? = some u → (W.alloc (.cells #[x, y, z] t)).cell? ((⟨W.heap.size, 0, none⟩ : Addr).add j) = some u := by
  intro j u h
  have hb := Blk.new W t #[x, y, z]
  rcases j with _ | _ | _ | j
  · have := hb.cell 0; simp at h; subst h; exact this
  · have := hb.cell 1; simp at h; subst h; exact this
  · have := hb.cell 2; simp at h; subst h; exact this
  · simp at h
theorem u8_one (x y z : Int) : ∀ u ∈ [Value.int .u8 x, .int .u8 y, .int .u8 z], u.oneCell' = true := by simp [Value.oneCell']
theorem own_conv {w : World} {base n : Nat} {v : Value} {L : List Int} (h : w.ownsRow base 5 1 v n (L.map (Value.int .u8))) : Sem.run Try.prog (convert 69 9 v) w = .ok (.string (strOfNums L)) w := by
  have hlen : L.length = n := by have := h.1; simpa using this
  rcases h.2 with ⟨rfl, rfl⟩ | ⟨g, cap, cur, rfl, hb, hg, hn, hcap, hsz, htake⟩
  · have : L = [] := List.length_eq_zero_iff.1 hlen
    subst this
    exact run_convert_bytes_nil w _ _ Try.underlying69 Try.underlying5 0 0 _ Try.underlying9
  · refine run_convert_bytes_arg w _ _ Try.underlying69 Try.underlying5 g 0 n cap L hlen (fun i hi => ?_) _ Try.underlying9
    have hh := h.cellAt i (by simpa using hi)
    rw [Nat.zero_add, hh]
    have : i < L.length := by omega
    simp [this]
theorem size_alloc (w : World) (o : Obj) : (w.alloc o).heap.size = w.heap.size + 1 := by simp
theorem cell_old (w : World) (o : Obj) (b i : Nat) (h : b < w.heap.size) : (w.alloc o).cell? ⟨b, i, none⟩ = w.cell? ⟨b, i, none⟩ := World.cell?_of_block (Below.heap_alloc w o b h)
theorem own_slice {w : World} {base : Nat} {e : TypeId} {size : Nat} {v : Value} {n : Nat} {xs : List Value} (h : w.ownsRow base e size v n xs) : ∃ A c, v = .slice A n c := by
  rcases h.2 with ⟨rfl, rfl⟩ | ⟨g, cap, cur, rfl, _⟩
  · exact ⟨none, 0, rfl⟩
  · exact ⟨_, _, rfl⟩
theorem grown_ext {w W w' : World} {base : Nat} {e : TypeId} {v : Value} {n : Nat} {xs : List Value} {size : Nat} (h : Ext w W) (o : W.ownsRow base e size v n xs) (g : W.grownBy w' v.ownBlock) (hb : w.heap.size ≤ base) : Ext w w' := by
  refine ((Keep.of_ext h (fun k => some k = v.ownBlock)).trans ⟨g.os, g.tape, g.output, g.size, fun k hk hn => g.block k hk hn⟩).toExt (fun k hk hs => ?_)
  have := (o.lt k hs.symm).1
  omega
set_option maxRecDepth 100000 in
set_option maxHeartbeats 2000000 in
theorem cput (w : World) (a : Option Addr) (len cap : Nat) (zs : Nat → Nat → Int) (hl : len ≤ 10000) (hr : Rows3 w a len zs) :
    Calls Try.prog 25 #[.slice a len cap] w fun e w' => e = .returned (.string (putS zs len)) ∧ Ext w w' := by
  obtain ⟨i0, hi, hz0, hz1, hz2⟩ := info_parts info8
  have HR := Lib.hid hr
  clear hr
  go_enter Try.func25, Try.ntmps25
  go_wp2
  go_loopw [3, 8] (fun v i wr => ∃ k : Nat, k ≤ len ∧ i = .int .i64 k ∧ wr.ownsRow w.heap.size 5 1 v (3 * k) ((putL zs k).map (Value.int .u8)) ∧ Ext w wr) (fun _ i _ => len - (intOf i).toNat)
  case atStart => exact ⟨0, Nat.zero_le _, rfl, World.ownsRow_nil _ _ _ _, Ext.refl _⟩
  case round =>
    obtain ⟨k, hk, rfl, ho, hx⟩ := hrel
    by_cases hlt : k < len
    · obtain ⟨b, off, rfl, hb, c0, c1, c2⟩ := HR.out k hlt
      have c0' := hx.below.cell (p := ⟨b, off + k * 3, none⟩) hb
      have c1' := hx.below.cell (p := ⟨b, off + k * 3 + 1, none⟩) hb
      have c2' := hx.below.cell (p := ⟨b, off + k * 3 + 2, none⟩) hb
      rw [c0] at c0'
      rw [c1] at c1'
      rw [c2] at c2'
      clear c0 c1 c2
      have hs := hx.below.size
      have ZS : Hid (putL zs (k + 1) = putL zs k ++ [zs k 0 % 256, zs k 1 % 256, zs k 2 % 256]) := rfl
      generalize zs k 0 = x0 at c0' ZS
      generalize zs k 1 = x1 at c1' ZS
      generalize zs k 2 = x2 at c2' ZS
      go_wp2_with (at_builtin; refine wpList_append_own _ rfl _ _ 69 rfl w.heap.size 5 i0 (.int .u8 0) 1 1 Try.underlying69 hi hz0 hz1 hz2 rfl (by decide) _ _ _ rfl ((ho.alloc _).alloc _) ⟨wr.heap.size + 1, 0, none⟩ 3 3 [.int .u8 (x0 % 256), .int .u8 (x1 % 256), .int .u8 (x2 % 256)] rfl rfl ?c1 (u8_one _ _ _) ?c3 ?c4 ?c5 ?_)
      case c1 =>
        have hnn := news3 (wr.alloc (.cells #[.int .i64 x0, .int .i64 x1, .int .i64 x2] 27)) (.int .u8 (x0 % 256)) (.int .u8 (x1 % 256)) (.int .u8 (x2 % 256)) 5
        rw [size_alloc] at hnn
        exact hnn
      case c3 => unfold maxLen; omega
      case c4 => omega
      case c5 => simp; omega
      intro v' w3 o3 g3 _
      go_wp2
      go_roundw
      case rel =>
        exact ⟨k + 1, by omega, by go_num, by rw [ZS.out]; simpa [Nat.mul_add] using o3, grown_ext ((hx.alloc _).alloc _) ((ho.alloc _).alloc _) g3 (Nat.le_refl _)⟩
      case measure => simp [intOf]; omega
    · obtain rfl : k = len := by omega
      have hcv := own_conv ho
      obtain ⟨A, c, rfl⟩ := own_slice ho
      go_wp2
      go_ret
      exact ⟨rfl, hx⟩
set_option maxRecDepth 100000 in
set_option maxHeartbeats 2000000 in
theorem rput (w : World) (a : Option Addr) (len cap : Nat) (zs : Nat → Nat → Int) (hl : len ≤ 10000) (hr : Rows3 w a len zs) :
    Calls Try.prog 26 #[.slice a len cap] w fun e w' => e = .returned (.string (putS zs len)) ∧ Ext w w' := by
  obtain ⟨i0, hi, hz0, hz1, hz2⟩ := info_parts info8
  have HR := Lib.hid hr
  clear hr
  go_enter Try.func26, Try.ntmps26
  go_wp2
  go_loopw [3, 4] (fun v i wr => ∃ k : Nat, k ≤ len ∧ i = .int .i64 k ∧ wr.ownsRow w.heap.size 5 1 v (3 * k) ((putL zs k).map (Value.int .u8)) ∧ Ext w wr) (fun _ i _ => len - (intOf i).toNat)
  case atStart => exact ⟨0, Nat.zero_le _, rfl, World.ownsRow_nil _ _ _ _, Ext.refl _⟩
  case round =>
    obtain ⟨k, hk, rfl, ho, hx⟩ := hrel
    by_cases hlt : k < len
    · obtain ⟨b, off, rfl, hb, c0, c1, c2⟩ := HR.out k hlt
      have c0' := hx.below.cell (p := ⟨b, off + k * 3, none⟩) hb
      have c1' := hx.below.cell (p := ⟨b, off + k * 3 + 1, none⟩) hb
      have c2' := hx.below.cell (p := ⟨b, off + k * 3 + 2, none⟩) hb
      rw [c0] at c0'
      rw [c1] at c1'
      rw [c2] at c2'
      clear c0 c1 c2
      have hs := hx.below.size
      have ZS : Hid (putL zs (k + 1) = putL zs k ++ [zs k 0 % 256, zs k 1 % 256, zs k 2 % 256]) := rfl
      generalize zs k 0 = x0 at c0' ZS
      generalize zs k 1 = x1 at c1' ZS
      generalize zs k 2 = x2 at c2' ZS
      have kk : (k : Int) < (len : Int) := by omega
      have hbw : b < wr.heap.size := by omega
      obtain ⟨A, c, rfl⟩ := own_slice ho
      have far : some b ≠ (Value.slice A (3 * k) c).ownBlock := fun h => by have := (ho.lt b h.symm).1; omega
      have FAR := Lib.hid far
      clear far
      go_wp2
      go_region_held3 (fun w' => w'.cell? ⟨b, off + k * 3, none⟩ = some (.int .i64 x0) ∧ w'.cell? ⟨b, off + k * 3 + 1, none⟩ = some (.int .i64 x1) ∧ w'.cell? ⟨b, off + k * 3 + 2, none⟩ = some (.int .i64 x2)) (first | go_keep | exact ⟨(g3.cell_far _ (by simp; omega) FAR.out).trans ((cell_old wr.drew _ b _ hbw).trans c0'), (g3.cell_far _ (by simp; omega) FAR.out).trans ((cell_old wr.drew _ b _ hbw).trans c1'), (g3.cell_far _ (by simp; omega) FAR.out).trans ((cell_old wr.drew _ b _ hbw).trans c2')⟩) ((refine step_append_lies _ (by rfl) _ _ _ (by rfl) w.heap.size 5 i0 (.int .u8 0) 1 1 Try.underlying69 hi hz0 hz1 hz2 rfl (by decide) _ _ _ (by rfl) ((ho : wr.drew.ownsRow _ _ _ _ _ _).alloc _) ⟨wr.heap.size, 0, none⟩ 3 3 [.int .u8 (x0 % 256), .int .u8 (x1 % 256), .int .u8 (x2 % 256)] (by rfl) (by rfl) (news3 wr.drew _ _ _ _) (u8_one _ _ _) (by omega) (by unfold maxLen; omega) (by omega) (by simp; omega) (wr.heap.size + 1) (by simp) ?_; intro gg cc w3 o3 g3 hat hlt3))
      go_wp2
      go_roundw
      case rel =>
        exact ⟨k + 1, by omega, by go_num, by rw [ZS.out]; simpa [Nat.mul_add] using o3, grown_ext (hx.drew.alloc _) ((ho : wr.drew.ownsRow _ _ _ _ _ _).alloc _) g3 (Nat.le_refl _)⟩
      case measure => simp [intOf]; omega
    · obtain rfl : k = len := by omega
      have hcv := own_conv ho
      obtain ⟨A, c, rfl⟩ := own_slice ho
      go_wp2
      go_ret
      exact ⟨rfl, hx⟩
end Go.Proofs.Ytabknckaoeifhaa.Code
