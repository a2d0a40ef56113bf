/-
  Read5, as one text (a claim has at most 60 files).
-/
import Derived.Test.YtjpalcejmloocaaGreatVq29
import Derived.Test.YtjpalcejmloocaaGreatVq30
import Derived.Laws.BytesString
namespace Go.Proofs.YtjpalcejmloocaaGreat.World
open Go.RowKit Go.Proofs.YtjpalcejmloocaaGreat.Plain
set_option linter.unusedVariables false
theorem and4_nat (n : Nat) : n &&& 4 = n / 4 % 2 * 4 := by
  have h1 : (n &&& 4) % 2 ^ 3 = (n % 2 ^ 3) &&& (4 % 2 ^ 3) := Nat.and_mod_two_pow
  have h2 : (n &&& 4) / 2 / 2 / 2 = 0 := by rw [Nat.and_div_two, Nat.and_div_two, Nat.and_div_two]; exact Nat.and_zero _
  have h3 : ∀ r, r < 8 → r &&& 4 = r / 4 % 2 * 4 := by decide
  have h4 := h3 (n % 8) (Nat.mod_lt _ (by decide))
  have e : (n % 2 ^ 3) &&& (4 % 2 ^ 3) = n % 8 &&& 4 := rfl
  rw [e, h4] at h1
  have e8 : (2 : Nat) ^ 3 = 8 := rfl
  rw [e8] at h1
  omega
theorem nand4_nat (n : Nat) (h : n < 4294967296) : n &&& 4294967291 = n - n / 4 % 2 * 4 := by
  have h1 : (n &&& 4294967291) % 2 ^ 3 = (n % 2 ^ 3) &&& (4294967291 % 2 ^ 3) := Nat.and_mod_two_pow
  have h2 : (n &&& 4294967291) / 2 / 2 / 2 = n / 8 := by
    rw [Nat.and_div_two, Nat.and_div_two, Nat.and_div_two]
    have e : n / 2 / 2 / 2 = n / 8 := by omega
    rw [e]
    have := Nat.and_two_pow_sub_one_eq_mod (n / 8) 29
    have e2 : (4294967291 / 2 / 2 / 2 : Nat) = 2 ^ 29 - 1 := rfl
    rw [e2, this]
    exact Nat.mod_eq_of_lt (by omega)
  have h3 : ∀ r, r < 8 → r &&& 3 = r - r / 4 % 2 * 4 := by decide
  have h4 := h3 (n % 8) (Nat.mod_lt _ (by decide))
  have e : (n % 2 ^ 3) &&& (4294967291 % 2 ^ 3) = n % 8 &&& 3 := rfl
  rw [e, h4] at h1
  have e8 : (2 : Nat) ^ 3 = 8 := rfl
  rw [e8] at h1
  omega
theorem band4 (x : Int) (h0 : 0 ≤ x) (h1 : x < 4294967296) : bits .and .u32 x 4 = x / 4 % 2 * 4 := by
  obtain ⟨n, rfl⟩ := Int.eq_ofNat_of_zero_le h0
  have h := u32_and_nat n 4 (by omega) (by omega)
  rw [and4_nat] at h
  have e : ((n / 4 % 2 * 4 : Nat) : Int) = (n : Int) / 4 % 2 * 4 := by omega
  rw [← e]; exact h
theorem bnand4 (x : Int) (h0 : 0 ≤ x) (h1 : x < 4294967296) : bits .andNot .u32 x 4 = x - x / 4 % 2 * 4 := by
  obtain ⟨n, rfl⟩ := Int.eq_ofNat_of_zero_le h0
  have h := u32_andNot_nat n 4 (by omega) (by omega)
  rw [show (4294967295 - 4 : Nat) = 4294967291 from rfl, nand4_nat n (by omega)] at h
  have e : ((n - n / 4 % 2 * 4 : Nat) : Int) = (n : Int) - (n : Int) / 4 % 2 * 4 := by omega
  rw [← e]; exact h
/-- bytes as a string -/
def strI (l : List Int) : ByteArray := l.foldl (fun r n => r.push (UInt8.ofNat n.toNat)) ByteArray.empty
theorem strI_push (l : List Int) (x : Int) : strI (l ++ [x]) = (strI l).push (UInt8.ofNat x.toNat) := by unfold strI; rw [List.foldl_append]; rfl
theorem bytesI_str : ∀ (n : Nat) (l : List Int), l.length = n → okB l → bytesI (strI l) = l
  | 0, l, hl, _ => by rw [List.eq_nil_of_length_eq_zero hl]; rfl
  | n + 1, l, hl, h => by
    rcases List.eq_nil_or_concat l with rfl | ⟨l', x, rfl⟩
    · rfl
    · rw [List.concat_eq_append] at *
      have ih := bytesI_str n l' (by simpa using hl) (fun y hy => h y (by simp [hy]))
      obtain ⟨x0, x1⟩ := h x (by simp)
      rw [strI_push]
      have e : bytesI ((strI l').push (UInt8.ofNat x.toNat)) = bytesI (strI l') ++ [((UInt8.ofNat x.toNat).toNat : Int)] := by
        unfold bytesI
        show List.map _ ((strI l').data.push _).toList = _
        rw [Array.toList_push, List.map_append]; rfl
      rw [e, ih]
      have e2 : ((UInt8.ofNat x.toNat).toNat : Int) = x := by
        rw [UInt8.toNat_ofNat']
        omega
      rw [e2]
/-- what is a thing's kind -/
def fmtK (k : Int) : Int := k - k / 4 % 2 * 4
def finK (k : Int) : Bool := k / 4 % 2 * 4 != 0
/-- so many fields -/
def valsR : Nat → RdS → List PV × RdS
  | 0, s => ([], s)
  | k + 1, s => ((valsR k s).1 ++ [(valR (valsR k s).2).1], (valR (valsR k s).2).2)
def kindR (s : RdS) : RdS := if fmtK (numR s).1 < 1 ∨ 3 < fmtK (numR s).1 then wrongR 4 (numR s).2 else (numR s).2
def restR (s : RdS) : RdS := kindR (numR s).2
def bodyR (c k h : Int) (s : RdS) : PT × RdS :=
  if fmtK k = 3 then (⟨c, fmtK k, h, finK k, [], strI (takeR (countR 1 s).1.toNat (countR 1 s).2).1⟩, (takeR (countR 1 s).1.toNat (countR 1 s).2).2)
  else (⟨c, fmtK k, h, finK k, (valsR (countR 4 s).1.toNat (countR 4 s).2).1, ByteArray.empty⟩, (valsR (countR 4 s).1.toNat (countR 4 s).2).2)
/-- the next thing -/
def thingR (s : RdS) : PT × RdS := bodyR (numR s).1 (numR (numR s).2).1 (numR (restR s)).1 (numR (restR s)).2
theorem vals_len : ∀ (k : Nat) (s : RdS), (valsR k s).1.length = k
  | 0, _ => rfl
  | k + 1, s => by show ((valsR k s).1 ++ [_]).length = k + 1; rw [List.length_append, vals_len k s]; rfl
theorem okB_vals : ∀ (k : Nat) {s : RdS}, okB s.b → okB (valsR k s).2.b
  | 0, _, h => h
  | k + 1, s, h => okB_val (okB_vals k h)
theorem okB_kind {s : RdS} (h : okB s.b) : okB (kindR s).b := by unfold kindR; split; exact okB_wrong (okB_num h); exact okB_num h
set_option maxRecDepth 100000 in
theorem conv_str {W : World} {A : Option Addr} {n c : Nat} {l : List Int} (h : Row W (.slice A n c) l.length 1 (cU l)) : (convert 79 9 (.slice A n c)).run Tryz.prog W = .ok (.string (strI l)) W := by
  obtain ⟨A', c', e, h1, h2, h3⟩ := h.ex
  injection e with e1 e2 e3
  subst e1 e2 e3
  refine (run_convert_bytes_string W 79 9 5 A l.length c Tryz.underlying79 Tryz.underlying5 Tryz.underlying9).trans ?_
  cases A with
  | none =>
    have hl : l = [] := by
      cases l with
      | nil => rfl
      | cons a l =>
        obtain ⟨b, off, e, _⟩ := h3 0 (by simp)
        cases e
    rw [hl]
    rfl
  | some a =>
    unfold strI
    refine run_bytesToString W a l.length c l ?_
    have q := run_loadCells_list (P := Tryz.prog) (w := W) a (l.map (Value.int .u8)) (fun j v hj => by
      have hjl : j < l.length := by
        have := (List.getElem?_eq_some_iff.1 hj).1
        simpa using this
      obtain ⟨b, off, e, hb, hc⟩ := h3 j hjl
      injection e with e
      subst e
      have c0 := hc 0 (by omega)
      rw [Addr.add_lit]
      rw [show off + j * 1 + 0 = off + j from by omega] at c0
      rw [c0]
      rw [List.getElem?_map, List.getElem?_eq_getElem hjl] at hj
      unfold cU
      rw [List.getD_eq_getElem?_getD, List.getElem?_eq_getElem hjl]
      exact hj)
    rw [List.length_map] at q
    exact q
end Go.Proofs.YtjpalcejmloocaaGreat.World
