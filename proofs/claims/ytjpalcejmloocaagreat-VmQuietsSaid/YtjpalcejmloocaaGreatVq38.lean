/-
  GetPlain, BackPlain, as one text (a claim has at most 60 files).
-/
import Derived.Test.YtjpalcejmloocaaGreatVq37
import Derived.Test.YtjpalcejmloocaaGreatVq30
namespace Go.Proofs.YtjpalcejmloocaaGreat.World
open Go.RowKit Go.Proofs.YtjpalcejmloocaaGreat.Plain
set_option linter.unusedVariables false
/-- so many things -/
def thsR : Nat → RdS → List PT × RdS
  | 0, s => ([], s)
  | k + 1, s => ((thsR k s).1 ++ [(thingR (thsR k s).2).1], (thingR (thsR k s).2).2)
/-- so many that wait -/
def waitsR : Nat → RdS → List (Int × Int) × RdS
  | 0, s => ([], s)
  | k + 1, s => ((waitsR k s).1 ++ [((numR (waitsR k s).2).1, (numR (numR (waitsR k s).2).2).1)], (numR (numR (waitsR k s).2).2).2)
/-- the world, behind the things -/
def regsG (L : List PT) (s : RdS) : PW × RdS :=
  let s1 := (numR s).2
  let s2 := (numR s1).2
  let s3 := (placesR s2).2
  let s4 := (countR 8 s3).2
  let m := (countR 8 s3).1.toNat
  let s5 := (waitsR m s4).2
  let s6 := (placesR s5).2
  (⟨L, [], (numR s6).1, ⟨(numR s).1, (numR s1).1, (placesR s2).1, (waitsR m s4).1, (placesR s5).1, ByteArray.empty, ByteArray.empty, 0, 0, []⟩⟩, (numR s6).2)
def overR (s : RdS) : RdS := if 0 < s.b.length then wrongR 4 s else s
def seenR (W : PW) (s : RdS) : RdS := if s.e = 0 ∧ checkB W = false then wrongR 5 s else s
def allG (s : RdS) : PW × RdS :=
  let s2 := (countR 1 s).2
  let n := (countR 1 s).1.toNat
  let r := regsG (thsR n s2).1 (thsR n s2).2
  (r.1, seenR r.1 (overR r.2))
def magicL : List Int := [67, 81, 49]
/-- what Get answers: what is wrong, and the world -/
def getS (b : List Int) : Int × Option PW :=
  if 65536 < b.length then (2, none)
  else if b.take (min b.length 3) ≠ magicL.take (min b.length 3) then (4, none)
  else if (allG (takeR 3 ⟨b, 0⟩).2).2.e = 0 then (0, some (allG (takeR 3 ⟨b, 0⟩).2).1) else ((allG (takeR 3 ⟨b, 0⟩).2).2.e, none)
/-! ### what is wrong first stays -/
theorem stay_wrong {x : Int} {s : RdS} (h : s.e ≠ 0) : wrongR x s = s := by unfold wrongR; rw [if_neg h]
theorem stay_take {n : Nat} {s : RdS} (h : s.e ≠ 0) : (takeR n s).2 = s := by unfold takeR; rw [if_neg h]
theorem stay_num {s : RdS} (h : s.e ≠ 0) : (numR s).2 = s := stay_take h
theorem stay_short {p : Int} {s : RdS} (h : s.e ≠ 0) : shortR p s = s := by unfold shortR; rw [stay_wrong h]; split <;> rfl
theorem stay_count {each : Int} {s : RdS} (h : s.e ≠ 0) : (countR each s).2 = s ∧ (countR each s).1 = 0 := by
  unfold countR
  rw [stay_num h, stay_short h, if_neg h]
  exact ⟨rfl, rfl⟩
theorem stay_val {s : RdS} (h : s.e ≠ 0) : (valR s).2 = s := stay_num h
theorem stay_nums : ∀ (k : Nat) {s : RdS}, s.e ≠ 0 → (numsR k s).2 = s
  | 0, _, _ => rfl
  | k + 1, s, h => by
    show (numR (numsR k s).2).2 = s
    rw [stay_nums k h]; exact stay_num h
theorem stay_vals : ∀ (k : Nat) {s : RdS}, s.e ≠ 0 → (valsR k s).2 = s
  | 0, _, _ => rfl
  | k + 1, s, h => by
    show (valR (valsR k s).2).2 = s
    rw [stay_vals k h]; exact stay_val h
theorem stay_places {s : RdS} (h : s.e ≠ 0) : (placesR s).2 = s := by
  unfold placesR
  rw [(stay_count h).1]; exact stay_nums _ h
theorem stay_kind {s : RdS} (h : s.e ≠ 0) : kindR s = s := by
  unfold kindR
  rw [stay_num h, stay_wrong h]; split <;> rfl
theorem stay_body {c k x : Int} {s : RdS} (h : s.e ≠ 0) : (bodyR c k x s).2 = s := by
  unfold bodyR
  split
  · show (takeR _ (countR 1 s).2).2 = s
    rw [(stay_count h).1]; exact stay_take h
  · show (valsR _ (countR 4 s).2).2 = s
    rw [(stay_count h).1]; exact stay_vals _ h
theorem stay_thing {s : RdS} (h : s.e ≠ 0) : (thingR s).2 = s := by
  unfold thingR restR
  rw [stay_num h, stay_kind h, stay_num h]
  exact stay_body h
theorem stay_ths (s : RdS) (k : Nat) : ∀ (j : Nat), k ≤ j → (thsR k s).2.e ≠ 0 → (thsR j s).2 = (thsR k s).2 := by
  intro j
  induction j with
  | zero =>
    intro hk h
    obtain rfl : k = 0 := by omega
    rfl
  | succ j ih =>
    intro hk h
    rcases Nat.lt_or_ge k (j + 1) with h1 | h1
    · have e := ih (by omega) h
      show (thingR (thsR j s).2).2 = _
      rw [e]; exact stay_thing h
    · obtain rfl : k = j + 1 := by omega
      rfl
theorem stay_waits : ∀ (k : Nat) {s : RdS}, s.e ≠ 0 → (waitsR k s).2 = s
  | 0, _, _ => rfl
  | k + 1, s, h => by
    show (numR (numR (waitsR k s).2).2).2 = s
    rw [stay_waits k h, stay_num h]; exact stay_num h
theorem stay_regs {L : List PT} {s : RdS} (h : s.e ≠ 0) : (regsG L s).2 = s := by
  unfold regsG
  simp only [stay_num h, stay_places h, (stay_count h).1, stay_waits _ h]
theorem stay_over {s : RdS} (h : s.e ≠ 0) : overR s = s := by unfold overR; rw [stay_wrong h]; split <;> rfl
theorem stay_seen {W : PW} {s : RdS} (h : s.e ≠ 0) : seenR W s = s := by unfold seenR; rw [if_neg (fun q => h q.1)]
/-- what is wrong with a thing is what is wrong with all -/
theorem all_wrong {s : RdS} {k : Nat} (hk : k ≤ (countR 1 s).1.toNat) (h : (thsR k (countR 1 s).2).2.e ≠ 0) : (allG s).2 = (thsR k (countR 1 s).2).2 := by
  have e := stay_ths (countR 1 s).2 k _ hk h
  unfold allG
  simp only [e, stay_regs h, stay_over h, stay_seen h]
theorem ths_len : ∀ (k : Nat) (s : RdS), (thsR k s).1.length = k
  | 0, _ => rfl
  | k + 1, s => by show ((thsR k s).1 ++ [_]).length = k + 1; rw [List.length_append, ths_len k s]; rfl
theorem waits_len : ∀ (k : Nat) (s : RdS), (waitsR k s).1.length = k
  | 0, _ => rfl
  | k + 1, s => by show ((waitsR k s).1 ++ [_]).length = k + 1; rw [List.length_append, waits_len k s]; rfl
theorem okB_thing {s : RdS} (h : okB s.b) : okB (thingR s).2.b := by
  have h4 := okB_num (okB_kind (okB_num h))
  unfold thingR bodyR restR
  split
  · exact (okB_take (okB_count h4)).2
  · exact okB_vals _ (okB_count h4)
theorem okB_ths : ∀ (k : Nat) {s : RdS}, okB s.b → okB (thsR k s).2.b
  | 0, _, h => h
  | k + 1, s, h => okB_thing (okB_ths k h)
theorem okB_waits : ∀ (k : Nat) {s : RdS}, okB s.b → okB (waitsR k s).2.b
  | 0, _, h => h
  | k + 1, s, h => okB_num (okB_num (okB_waits k h))
theorem vals_short : ∀ (k : Nat) (s : RdS), (valsR k s).2.b.length ≤ s.b.length
  | 0, _ => Nat.le_refl _
  | k + 1, s => Nat.le_trans (num_short _) (vals_short k s)
theorem kind_short (s : RdS) : (kindR s).b.length ≤ s.b.length := by unfold kindR; split; rw [wrong_b]; exact num_short _; exact num_short _
theorem thing_short (s : RdS) : (thingR s).2.b.length ≤ s.b.length := by
  have a1 := num_short s
  have a2 := kind_short (numR s).2
  have a3 := num_short (kindR (numR s).2)
  have hbody : ∀ c k x (s : RdS), (bodyR c k x s).2.b.length ≤ s.b.length := fun c k x s => by
    unfold bodyR
    split
    · exact Nat.le_trans (take_short _ _) (count_short _ _)
    · exact Nat.le_trans (vals_short _ _) (count_short _ _)
  exact Nat.le_trans (hbody _ _ _ _) (Nat.le_trans a3 (Nat.le_trans a2 a1))
theorem ths_short : ∀ (k : Nat) (s : RdS), (thsR k s).2.b.length ≤ s.b.length
  | 0, _ => Nat.le_refl _
  | k + 1, s => Nat.le_trans (thing_short _) (ths_short k s)
end Go.Proofs.YtjpalcejmloocaaGreat.World
namespace Go.Proofs.YtjpalcejmloocaaGreat.World
open Go.RowKit Go.Proofs.YtjpalcejmloocaaGreat.Plain
set_option linter.unusedVariables false
theorem num_b4 {n : Int} (n0 : 0 ≤ n) (n1 : n < 4294967296) (r : List Int) : numR ⟨b4 n ++ r, 0⟩ = (n, ⟨r, 0⟩) := by
  have ht : takeR 4 ⟨b4 n ++ r, 0⟩ = (b4 n, ⟨r, 0⟩) := by
    unfold takeR
    rw [if_pos rfl, if_pos (by show 4 ≤ (b4 n ++ r).length; rw [List.length_append, b4_len]; omega)]
    rfl
  unfold numR
  rw [ht]
  show (beV (b4 n), _) = _
  have e : beV (b4 n) = n := by
    show ((((0 * 256 + n / 16777216) * 256 + n / 65536 % 256) * 256 + n / 256 % 256) * 256 + n % 256) = n
    omega
  rw [e]
theorem count_b4 {n each : Int} (n0 : 0 ≤ n) (n1 : n < 4294967296) (r : List Int) (h : n * each ≤ r.length) : countR each ⟨b4 n ++ r, 0⟩ = (n, ⟨r, 0⟩) := by
  have hs : shortR (n * each) ⟨r, 0⟩ = ⟨r, 0⟩ := by
    unfold shortR
    rw [if_neg (by show ¬ (r.length : Int) < n * each; omega)]
  unfold countR
  rw [num_b4 n0 n1]
  simp only [hs, if_true]
/-- a field that comes back -/
def backV (v : PV) : Prop := (v.obj = true → 0 ≤ v.n ∧ v.n ≤ 2147483647) ∧ (v.obj = false → -1073741824 ≤ v.n ∧ v.n ≤ 1073741823)
theorem val_b4 {v : PV} (h : backV v) (r : List Int) : valR ⟨b4 (valW v) ++ r, 0⟩ = (v, ⟨r, 0⟩) := by
  obtain ⟨o, n⟩ := v
  cases o with
  | true =>
    obtain ⟨a, b⟩ := h.1 rfl
    replace a : 0 ≤ n := a
    replace b : n ≤ 2147483647 := b
    have e : valW ⟨true, n⟩ = 2 * n := by
      unfold valW refW
      simp only [if_true]
      repeat' split
      all_goals omega
    unfold valR
    rw [e, num_b4 (by omega) (by omega)]
    have h1 : isIntB (2 * n) = false := by unfold isIntB; simp
    have h2 : refOfW (2 * n) = n := by
      unfold refOfW
      repeat' split
      all_goals omega
    simp only [h1, h2]
    rfl
  | false =>
    obtain ⟨a, b⟩ := h.2 rfl
    replace a : -1073741824 ≤ n := a
    replace b : n ≤ 1073741823 := b
    have e : valW ⟨false, n⟩ = (2 * n + 1) % 4294967296 := by
      unfold valW intW cutI
      simp only [Bool.false_eq_true, if_false]
      repeat' split
      all_goals omega
    unfold valR
    rw [e, num_b4 (by omega) (by omega)]
    have h1 : isIntB ((2 * n + 1) % 4294967296) = true := by
      unfold isIntB
      have : (2 * n + 1) % 4294967296 % 2 = 1 := by omega
      simp [this]
    have h2 : intOfW ((2 * n + 1) % 4294967296) = n := by
      unfold intOfW
      repeat' split
      all_goals omega
    simp only [h1, h2, if_true]
theorem nums_b4 : ∀ (l : List Int) (r : List Int), (∀ x ∈ l, 0 ≤ x ∧ x < 4294967296) → numsR l.length ⟨l.flatMap b4 ++ r, 0⟩ = (l, ⟨r, 0⟩) := by
  suffices h : ∀ (k : Nat) (l r : List Int), k ≤ l.length → (∀ x ∈ l, 0 ≤ x ∧ x < 4294967296) → numsR k ⟨l.flatMap b4 ++ r, 0⟩ = (l.take k, ⟨(l.drop k).flatMap b4 ++ r, 0⟩) by
    intro l r hx
    have q := h l.length l r (Nat.le_refl _) hx
    rw [q, List.take_length, List.drop_length]; rfl
  intro k
  induction k with
  | zero => intro l r _ _; rfl
  | succ k ih =>
    intro l r hk hx
    have q := ih l r (by omega) hx
    have hkl : k < l.length := by omega
    show ((numsR k _).1 ++ [(numR (numsR k _).2).1], (numR (numsR k _).2).2) = _
    rw [q]
    have hd : l.drop k = l[k] :: l.drop (k + 1) := List.drop_eq_getElem_cons hkl
    rw [hd, List.flatMap_cons, List.append_assoc]
    obtain ⟨x0, x1⟩ := hx l[k] (List.getElem_mem hkl)
    simp only [num_b4 x0 x1]
    rw [List.take_succ_eq_append_getElem hkl]
theorem places_b4 (l r : List Int) (hx : ∀ x ∈ l, 0 ≤ x ∧ x < 4294967296) (hl : l.length < 4294967296) : placesR ⟨encL l ++ r, 0⟩ = (l, ⟨r, 0⟩) := by
  unfold placesR encL
  rw [List.append_assoc, count_b4 (by omega) (by omega) _ (by rw [List.length_append, flat4_len]; omega)]
  show numsR ((l.length : Int)).toNat _ = _
  rw [Int.toNat_natCast]
  exact nums_b4 l r hx
theorem vals_b4 : ∀ (l : List PV) (r : List Int), (∀ v ∈ l, backV v) → valsR l.length ⟨l.flatMap (fun u => b4 (valW u)) ++ r, 0⟩ = (l, ⟨r, 0⟩) := by
  suffices h : ∀ (k : Nat) (l : List PV) (r : List Int), k ≤ l.length → (∀ v ∈ l, backV v) → valsR k ⟨l.flatMap (fun u => b4 (valW u)) ++ r, 0⟩ = (l.take k, ⟨(l.drop k).flatMap (fun u => b4 (valW u)) ++ r, 0⟩) by
    intro l r hx
    have q := h l.length l r (Nat.le_refl _) hx
    rw [q, List.take_length, List.drop_length]; rfl
  intro k
  induction k with
  | zero => intro l r _ _; rfl
  | succ k ih =>
    intro l r hk hx
    have q := ih l r (by omega) hx
    have hkl : k < l.length := by omega
    show ((valsR k _).1 ++ [(valR (valsR k _).2).1], (valR (valsR k _).2).2) = _
    rw [q]
    have hd : l.drop k = l[k] :: l.drop (k + 1) := List.drop_eq_getElem_cons hkl
    rw [hd, List.flatMap_cons, List.append_assoc]
    simp only [val_b4 (hx l[k] (List.getElem_mem hkl))]
    rw [List.take_succ_eq_append_getElem hkl]
/-- a thing that comes back -/
structure BackT (t : PT) : Prop where
  cls : 0 ≤ t.cls ∧ t.cls < 4294967296
  hash : 0 ≤ t.hash ∧ t.hash < 4294967296
  fmt : 1 ≤ t.fmt ∧ t.fmt ≤ 3
  F3 : t.fmt = 3 → t.F = []
  B3 : t.fmt ≠ 3 → t.B = ByteArray.empty
  B : t.B.size < 4294967296
  F : t.F.length < 4294967296
  v : ∀ v ∈ t.F, backV v
theorem strI_bytes (s : ByteArray) : strI (bytesI s) = s := by
  have h : ∀ (l : List UInt8), strI (l.map (fun b => (b.toNat : Int))) = ⟨l.toArray⟩ := by
    suffices g : ∀ (n : Nat) (l : List UInt8), l.length = n → strI (l.map (fun b => (b.toNat : Int))) = ⟨l.toArray⟩ from fun l => g _ l rfl
    intro n
    induction n with
    | zero => intro l hl; rw [List.eq_nil_of_length_eq_zero hl]; rfl
    | succ n ih =>
      intro l hl
      rcases List.eq_nil_or_concat l with rfl | ⟨l', x, rfl⟩
      · simp at hl
      · rw [List.concat_eq_append] at *
        rw [List.map_append, List.map_cons, List.map_nil, strI_push, ih l' (by simpa using hl)]
        rw [Int.toNat_natCast, UInt8.ofNat_toNat]
        show (⟨l'.toArray.push x⟩ : ByteArray) = _
        simp
  unfold bytesI
  rw [h]
theorem fin_kind {t : PT} (h : 1 ≤ t.fmt ∧ t.fmt ≤ 3) : fmtK (kindT t) = t.fmt ∧ finK (kindT t) = t.fin := by
  unfold fmtK finK kindT
  cases t.fin with
  | true =>
    simp only [if_true]
    refine ⟨by omega, ?_⟩
    have : (t.fmt + 4) / 4 % 2 * 4 = 4 := by omega
    rw [this]; rfl
  | false =>
    simp only [Bool.false_eq_true, if_false]
    refine ⟨by omega, ?_⟩
    have : (t.fmt + 0) / 4 % 2 * 4 = 0 := by omega
    rw [this]; rfl
theorem thing_b4 {t : PT} (h : BackT t) (r : List Int) : thingR ⟨encT t ++ r, 0⟩ = (t, ⟨r, 0⟩) := by
  obtain ⟨f1, f2⟩ := fin_kind h.fmt
  have hk : 0 ≤ kindT t ∧ kindT t < 4294967296 := by
    have := h.fmt
    unfold kindT
    split <;> omega
  have e1 : encT t ++ r = b4 t.cls ++ (b4 (kindT t) ++ (b4 t.hash ++ ((if t.fmt = 3 then b4 t.B.size ++ bytesI t.B else b4 t.F.length ++ t.F.flatMap (fun u => b4 (valW u))) ++ r))) := by
    unfold encT
    simp only [List.append_assoc]
  have k1 : ∀ r', kindR ⟨b4 (kindT t) ++ r', 0⟩ = ⟨r', 0⟩ := fun r' => by
    unfold kindR
    rw [num_b4 hk.1 hk.2]
    simp only [f1]
    rw [if_neg (by have := h.fmt; omega)]
  unfold thingR restR
  rw [e1, num_b4 h.cls.1 h.cls.2]
  simp only [k1, num_b4 hk.1 hk.2, num_b4 h.hash.1 h.hash.2]
  unfold bodyR
  rw [f1, f2]
  obtain ⟨tc, tf, th, tn, F, B⟩ := t
  by_cases h3 : tf = 3
  · have hF := h.F3 h3
    replace hF : F = [] := hF
    subst hF
    replace h3 : tf = 3 := h3
    simp only [h3, if_true]
    have hB := h.B
    have ec : countR 1 ⟨(b4 (B.size : Int) ++ bytesI B) ++ r, 0⟩ = ((B.size : Int), ⟨bytesI B ++ r, 0⟩) := by
      rw [List.append_assoc]
      exact count_b4 (by omega) (by have : B.size < 4294967296 := hB; omega) _ (by rw [List.length_append, bytesI_len]; omega)
    have et : takeR B.size ⟨bytesI B ++ r, 0⟩ = (bytesI B, ⟨r, 0⟩) := by
      unfold takeR
      rw [if_pos rfl, if_pos (by show B.size ≤ (bytesI B ++ r).length; rw [List.length_append, bytesI_len]; omega)]
      have a : (bytesI B ++ r).take B.size = bytesI B := by rw [← bytesI_len B]; exact List.take_left
      have b : (bytesI B ++ r).drop B.size = r := by rw [← bytesI_len B]; exact List.drop_left
      show (List.take _ _, _) = _
      rw [a, b]
    simp only [ec, Int.toNat_natCast, et, strI_bytes]
  · have hB := h.B3 h3
    replace hB : B = ByteArray.empty := hB
    subst hB
    replace h3 : ¬ tf = 3 := h3
    simp only [if_neg h3]
    have hF := h.F
    have ec : countR 4 ⟨(b4 (F.length : Int) ++ F.flatMap (fun u => b4 (valW u))) ++ r, 0⟩ = ((F.length : Int), ⟨F.flatMap (fun u => b4 (valW u)) ++ r, 0⟩) := by
      rw [List.append_assoc]
      exact count_b4 (by omega) (by have : F.length < 4294967296 := hF; omega) _ (by rw [List.length_append, flatV_len]; omega)
    simp only [ec, Int.toNat_natCast, vals_b4 F r h.v]
end Go.Proofs.YtjpalcejmloocaaGreat.World
