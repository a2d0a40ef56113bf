/-
  InvPlain, InvPlain2, as one text (a claim has at most 60 files).
-/
import Derived.Test.YtadhkmplhgcgkaaMc31
namespace Go.Proofs.Ytadhkmplhgcgkaa.World
open Go.RowKit Go.Proofs.Ytadhkmplhgcgkaa.Plain
set_option linter.unusedVariables false
/-- what was read well has these bytes -/
def Inv {α : Type} (f : RdS → α × RdS) (P : α → List Int → Prop) : Prop := ∀ l, okB l → (f ⟨l, 0⟩).2.e = 0 → ∃ c k, c = l.take k ∧ (f ⟨l, 0⟩).2 = ⟨l.drop k, 0⟩ ∧ k ≤ l.length ∧ P (f ⟨l, 0⟩).1 c
theorem Inv.bind {α β : Type} {f : RdS → α × RdS} {g : α → RdS → β × RdS} {P : α → List Int → Prop} {Q : α → β → List Int → Prop} {R : β → List Int → Prop} (hf : Inv f P) (hg : ∀ a, Inv (g a) (Q a)) (st : ∀ a, Good (g a)) (hR : ∀ a c b c', P a c → Q a b c' → R b (c ++ c')) : Inv (fun s => g (f s).1 (f s).2) R := by
  intro l hl h
  replace h : (g (f ⟨l, 0⟩).1 (f ⟨l, 0⟩).2).2.e = 0 := h
  have h1 : (f ⟨l, 0⟩).2.e = 0 := by
    by_cases e : (f ⟨l, 0⟩).2.e = 0
    · exact e
    · rw [(st _).stay _ e] at h; exact absurd h e
  obtain ⟨c, k, hc, e1, hk, p⟩ := hf l hl h1
  show ∃ c k, c = l.take k ∧ (g (f ⟨l, 0⟩).1 (f ⟨l, 0⟩).2).2 = ⟨l.drop k, 0⟩ ∧ k ≤ l.length ∧ R (g (f ⟨l, 0⟩).1 (f ⟨l, 0⟩).2).1 c
  rw [e1] at h ⊢
  obtain ⟨c', k', hc', e2, hk', q⟩ := hg (f ⟨l, 0⟩).1 (l.drop k) (fun x hx => hl x (List.mem_of_mem_drop hx)) h
  rw [List.length_drop] at hk'
  refine ⟨c ++ c', k + k', ?_, by rw [e2, List.drop_drop], by omega, hR _ _ _ _ p q⟩
  rw [hc, hc', List.take_add]
theorem Inv.map {α β : Type} {f : RdS → α × RdS} {P : α → List Int → Prop} {R : β → List Int → Prop} (hf : Inv f P) (φ : α → β) (hR : ∀ a c, P a c → R (φ a) c) : Inv (fun s => (φ (f s).1, (f s).2)) R := by
  intro l hl h
  obtain ⟨c, k, hc, e1, hk, p⟩ := hf l hl h
  exact ⟨c, k, hc, e1, hk, hR _ _ p⟩
theorem Inv.pure {α : Type} (a : α) {P : α → List Int → Prop} (h : P a []) : Inv (fun s => (a, s)) P := fun l _ _ => ⟨[], 0, rfl, rfl, Nat.zero_le _, h⟩
theorem inv_take (n : Nat) : Inv (takeR n) (fun bs c => c = bs ∧ bs.length = n ∧ okB bs) := by
  intro l hl h
  have hn : n ≤ l.length := by
    by_cases e : n ≤ l.length
    · exact e
    · exfalso
      unfold takeR at h
      rw [if_pos rfl, if_neg e] at h
      exact absurd h (by show ¬ (3 : Int) = 0; decide)
  have e1 : takeR n ⟨l, 0⟩ = (l.take n, ⟨l.drop n, 0⟩) := by unfold takeR; rw [if_pos rfl, if_pos hn]
  refine ⟨l.take n, n, rfl, by rw [e1], hn, ?_⟩
  rw [e1]
  exact ⟨rfl, by rw [List.length_take]; omega, fun x hx => hl x (List.mem_of_mem_take hx)⟩
def Pn (n : Int) (c : List Int) : Prop := c = b4 n ∧ 0 ≤ n ∧ n < 4294967296
theorem inv_num : Inv numR Pn := (inv_take 4).map beV (fun bs c h => by
  obtain ⟨rfl, h4, hk⟩ := h
  match c, h4, hk with
  | [a, b, d, e], _, hk =>
    have ha := hk a (by simp)
    have hb := hk b (by simp)
    have hd := hk d (by simp)
    have he := hk e (by simp)
    have ev : beV [a, b, d, e] = (((0 * 256 + a) * 256 + b) * 256 + d) * 256 + e := rfl
    refine ⟨?_, by rw [ev]; omega, by rw [ev]; omega⟩
    rw [ev]
    unfold b4
    have e1 : ((((0 * 256 + a) * 256 + b) * 256 + d) * 256 + e) / 16777216 = a := by omega
    have e2 : ((((0 * 256 + a) * 256 + b) * 256 + d) * 256 + e) / 65536 % 256 = b := by omega
    have e3 : ((((0 * 256 + a) * 256 + b) * 256 + d) * 256 + e) / 256 % 256 = d := by omega
    have e4 : ((((0 * 256 + a) * 256 + b) * 256 + d) * 256 + e) % 256 = e := by omega
    rw [e1, e2, e3, e4])
theorem inv_short (p n : Int) : Inv (fun s => ((if (shortR p s).e = 0 then n else 0), shortR p s)) (fun m c => m = n ∧ c = []) := by
  intro l hl h
  replace h : (shortR p ⟨l, 0⟩).e = 0 := h
  have hp : p ≤ (l.length : Int) := by
    by_cases e : p ≤ (l.length : Int)
    · exact e
    · exfalso
      unfold shortR at h
      rw [if_pos (by show (l.length : Int) < p; omega)] at h
      exact absurd h (by show ¬ (3 : Int) = 0; decide)
  have e1 : shortR p ⟨l, 0⟩ = ⟨l, 0⟩ := by unfold shortR; rw [if_neg (by show ¬ (l.length : Int) < p; omega)]
  refine ⟨[], 0, rfl, e1, Nat.zero_le _, ?_, rfl⟩
  show (if (shortR p ⟨l, 0⟩).e = 0 then n else 0) = n
  rw [if_pos h]
theorem inv_count (each : Int) : Inv (countR each) Pn := by
  have h := Inv.bind (R := Pn) inv_num (fun n => inv_short (n * each) n) (fun n => good_short (n * each) n) (fun a c b c' h h' => by
    obtain ⟨rfl, rfl⟩ := h'
    rw [List.append_nil]; exact h)
  have e : (fun s => ((if (shortR ((numR s).1 * each) (numR s).2).e = 0 then (numR s).1 else 0), shortR ((numR s).1 * each) (numR s).2)) = countR each := by
    funext s
    unfold countR
    split <;> rfl
  rw [← e]
  exact h
def Pv (v : PV) (c : List Int) : Prop := c = b4 (valW v)
theorem inv_val : Inv valR Pv := inv_num.map (fun n => if isIntB n = true then (⟨false, intOfW n⟩ : PV) else ⟨true, refOfW n⟩) (fun n c h => by
  obtain ⟨rfl, n0, n1⟩ := h
  unfold Pv
  congr 1
  by_cases hi : isIntB n = true
  · rw [if_pos hi]
    have h2 : n % 2 = 1 := by unfold isIntB at hi; simpa using hi
    unfold valW intW cutI intOfW
    simp only [Bool.false_eq_true, if_false, if_pos h2]
    repeat' split
    all_goals omega
  · rw [if_neg hi]
    have h2 : n % 2 = 0 := by
      rcases Int.emod_two_eq n with h | h
      · exact h
      · exfalso; apply hi; unfold isIntB; simp [h]
    unfold valW refW refOfW
    simp only [if_true]
    repeat' split
    all_goals omega)
theorem inv_nums : ∀ k, Inv (numsR k) (fun l c => l.length = k ∧ c = l.flatMap b4)
  | 0 => Inv.pure [] ⟨rfl, rfl⟩
  | k + 1 => Inv.bind (inv_nums k) (fun l => inv_num.map (R := fun l' c => ∃ x, l' = l ++ [x] ∧ c = b4 x) (fun x => l ++ [x]) (fun x c h => ⟨x, rfl, h.1⟩)) (fun l => good_num.map (fun x => l ++ [x])) (fun l c b c' h h' => by
      obtain ⟨h1, h2⟩ := h
      obtain ⟨x, rfl, rfl⟩ := h'
      exact ⟨by rw [List.length_append, h1]; rfl, by rw [List.flatMap_append, h2]; simp⟩)
theorem inv_vals : ∀ k, Inv (valsR k) (fun l c => l.length = k ∧ c = l.flatMap (fun u => b4 (valW u)))
  | 0 => Inv.pure [] ⟨rfl, rfl⟩
  | k + 1 => Inv.bind (inv_vals k) (fun l => inv_val.map (R := fun l' c => ∃ x, l' = l ++ [x] ∧ c = b4 (valW x)) (fun x => l ++ [x]) (fun x c h => ⟨x, rfl, h⟩)) (fun l => good_val.map (fun x => l ++ [x])) (fun l c b c' h h' => by
      obtain ⟨h1, h2⟩ := h
      obtain ⟨x, rfl, rfl⟩ := h'
      exact ⟨by rw [List.length_append, h1]; rfl, by rw [List.flatMap_append, h2]; simp⟩)
theorem inv_places : Inv placesR (fun l c => c = encL l) := Inv.bind (inv_count 4) (fun n => inv_nums n.toNat) (fun n => good_nums n.toNat) (fun n c l c' h h' => by
  obtain ⟨rfl, n0, n1⟩ := h
  obtain ⟨h1, rfl⟩ := h'
  unfold encL
  rw [h1, Int.toNat_of_nonneg n0])
theorem inv_waits : ∀ k, Inv (waitsR k) (fun l c => l.length = k ∧ c = l.flatMap encWt)
  | 0 => Inv.pure [] ⟨rfl, rfl⟩
  | k + 1 => Inv.bind (inv_waits k) (fun l => Inv.bind (R := fun l' c => ∃ p, l' = l ++ [p] ∧ c = encWt p) inv_num (fun a => inv_num.map (R := fun l' c => ∃ b, l' = l ++ [(a, b)] ∧ c = b4 b) (fun b => l ++ [(a, b)]) (fun b c h => ⟨b, rfl, h.1⟩)) (fun a => good_num.map (fun b => l ++ [(a, b)])) (fun a c l' c' h h' => by
        obtain ⟨b, rfl, rfl⟩ := h'
        exact ⟨(a, b), rfl, by rw [h.1]; rfl⟩)) (fun l => good_num.bind (fun a => good_num.map (fun b => l ++ [(a, b)]))) (fun l c b c' h h' => by
      obtain ⟨h1, h2⟩ := h
      obtain ⟨x, rfl, rfl⟩ := h'
      exact ⟨by rw [List.length_append, h1]; rfl, by rw [List.flatMap_append, h2]; simp⟩)
theorem inv_kind (kd : Int) : Inv (fun s => (kd, if fmtK kd < 1 ∨ 3 < fmtK kd then wrongR 4 s else s)) (fun k c => k = kd ∧ c = [] ∧ 1 ≤ fmtK kd ∧ fmtK kd ≤ 3) := by
  intro l hl h
  replace h : (if fmtK kd < 1 ∨ 3 < fmtK kd then wrongR 4 ⟨l, 0⟩ else (⟨l, 0⟩ : RdS)).e = 0 := h
  have hb : ¬ (fmtK kd < 1 ∨ 3 < fmtK kd) := fun hb => by
    rw [if_pos hb] at h
    exact absurd h (by show ¬ (4 : Int) = 0; decide)
  refine ⟨[], 0, rfl, ?_, Nat.zero_le _, rfl, rfl, by omega, by omega⟩
  show (if fmtK kd < 1 ∨ 3 < fmtK kd then wrongR 4 ⟨l, 0⟩ else (⟨l, 0⟩ : RdS)) = _
  rw [if_neg hb]; rfl
/-- the bytes of a thing's body -/
def bodyB (t : PT) : List Int := if t.fmt = 3 then b4 t.B.size ++ bytesI t.B else b4 t.F.length ++ t.F.flatMap (fun u => b4 (valW u))
theorem inv_body (c0 k h : Int) : Inv (bodyR c0 k h) (fun t c => c = bodyB t ∧ t.cls = c0 ∧ t.fmt = fmtK k ∧ t.hash = h ∧ t.fin = finK k) := by
  by_cases h3 : fmtK k = 3
  · have g := Inv.bind (R := fun t c => c = bodyB t ∧ t.cls = c0 ∧ t.fmt = fmtK k ∧ t.hash = h ∧ t.fin = finK k) (inv_count 1) (fun n => (inv_take n.toNat).map (R := fun t c => ∃ bs, t = (⟨c0, fmtK k, h, finK k, [], strI bs⟩ : PT) ∧ c = bs ∧ bs.length = n.toNat ∧ okB bs) (fun bs => (⟨c0, fmtK k, h, finK k, [], strI bs⟩ : PT)) (fun bs c h => ⟨bs, rfl, h⟩)) (fun n => (good_take n.toNat).map (fun bs => (⟨c0, fmtK k, h, finK k, [], strI bs⟩ : PT))) (fun n c t c' h1 h2 => by
      obtain ⟨rfl, n0, n1⟩ := h1
      obtain ⟨bs, rfl, rfl, hl, hk⟩ := h2
      refine ⟨?_, rfl, rfl, rfl, rfl⟩
      unfold bodyB
      rw [if_pos h3]
      have e := bytesI_str _ c' rfl hk
      show b4 n ++ c' = b4 ((strI c').size : Int) ++ bytesI (strI c')
      have e2 : (strI c').size = n.toNat := by rw [← bytesI_len, e, hl]
      rw [e, e2, Int.toNat_of_nonneg n0])
    have e : (fun s => ((⟨c0, fmtK k, h, finK k, [], strI (takeR (countR 1 s).1.toNat (countR 1 s).2).1⟩ : PT), (takeR (countR 1 s).1.toNat (countR 1 s).2).2)) = bodyR c0 k h := by
      funext s
      unfold bodyR
      rw [if_pos h3]
    rw [← e]
    exact g
  · have g := Inv.bind (R := fun t c => c = bodyB t ∧ t.cls = c0 ∧ t.fmt = fmtK k ∧ t.hash = h ∧ t.fin = finK k) (inv_count 4) (fun n => (inv_vals n.toNat).map (R := fun t c => ∃ F, t = (⟨c0, fmtK k, h, finK k, F, ByteArray.empty⟩ : PT) ∧ F.length = n.toNat ∧ c = F.flatMap (fun u => b4 (valW u))) (fun F => (⟨c0, fmtK k, h, finK k, F, ByteArray.empty⟩ : PT)) (fun F c h => ⟨F, rfl, h⟩)) (fun n => (good_vals n.toNat).map (fun F => (⟨c0, fmtK k, h, finK k, F, ByteArray.empty⟩ : PT))) (fun n c t c' h1 h2 => by
      obtain ⟨rfl, n0, n1⟩ := h1
      obtain ⟨F, rfl, hl, rfl⟩ := h2
      refine ⟨?_, rfl, rfl, rfl, rfl⟩
      unfold bodyB
      rw [if_neg h3]
      show b4 n ++ _ = b4 (F.length : Int) ++ _
      rw [hl, Int.toNat_of_nonneg n0])
    have e : (fun s => ((⟨c0, fmtK k, h, finK k, (valsR (countR 4 s).1.toNat (countR 4 s).2).1, ByteArray.empty⟩ : PT), (valsR (countR 4 s).1.toNat (countR 4 s).2).2)) = bodyR c0 k h := by
      funext s
      unfold bodyR
      rw [if_neg h3]
    rw [← e]
    exact g
theorem kind_of {k : Int} (k0 : 0 ≤ k) (k1 : k < 4294967296) (f : 1 ≤ fmtK k ∧ fmtK k ≤ 3) {t : PT} (h1 : t.fmt = fmtK k) (h2 : t.fin = finK k) : kindT t = k := by
  unfold kindT
  rw [h1, h2]
  unfold fmtK at f ⊢
  unfold finK
  have hm : k / 4 % 2 = 0 ∨ k / 4 % 2 = 1 := by omega
  rcases hm with hm | hm
  · rw [hm]; simp
  · rw [hm] at f ⊢; simp
theorem inv_thing : Inv thingR (fun t c => c = encT t) :=
  Inv.bind inv_num (fun c0 => Inv.bind (R := fun t c => ∃ k h, c = b4 k ++ (b4 h ++ bodyB t) ∧ t.cls = c0 ∧ t.hash = h ∧ kindT t = k) inv_num (fun k0 => Inv.bind (R := fun t c => ∃ h, c = b4 h ++ bodyB t ∧ t.cls = c0 ∧ t.fmt = fmtK k0 ∧ t.hash = h ∧ t.fin = finK k0 ∧ 1 ≤ fmtK k0 ∧ fmtK k0 ≤ 3) (inv_kind k0) (fun k => Inv.bind (R := fun t c => ∃ h, c = b4 h ++ bodyB t ∧ t.cls = c0 ∧ t.fmt = fmtK k ∧ t.hash = h ∧ t.fin = finK k) inv_num (fun h => inv_body c0 k h) (fun h => good_body c0 k h) (fun h c t c' h1 h2 => by
      obtain ⟨rfl, a, b, d, e⟩ := h2
      exact ⟨h, by rw [h1.1], a, b, d, e⟩)) (fun k => good_num.bind (fun h => good_body c0 k h)) (fun k c t c' h1 h2 => by
      obtain ⟨rfl, rfl, f1, f2⟩ := h1
      obtain ⟨h, e1, a, b, d, e⟩ := h2
      exact ⟨h, e1, a, b, d, e, f1, f2⟩)) (fun k0 => (good_kind k0).bind (fun k => good_num.bind (fun h => good_body c0 k h))) (fun k0 c t c' h1 h2 => by
      obtain ⟨rfl, k1, k2⟩ := h1
      obtain ⟨h, rfl, a, b, d, e, f1, f2⟩ := h2
      exact ⟨k0, h, rfl, a, d, kind_of k1 k2 ⟨f1, f2⟩ b e⟩)) (fun c0 => good_num.bind (fun k0 => (good_kind k0).bind (fun k => good_num.bind (fun h => good_body c0 k h)))) (fun c0 c t c' h1 h2 => by
      obtain ⟨rfl, _, _⟩ := h1
      obtain ⟨k, h, rfl, rfl, rfl, rfl⟩ := h2
      unfold encT bodyB
      simp only [List.append_assoc])
end Go.Proofs.Ytadhkmplhgcgkaa.World
namespace Go.Proofs.Ytadhkmplhgcgkaa.World
open Go.RowKit Go.Proofs.Ytadhkmplhgcgkaa.Plain
set_option linter.unusedVariables false
theorem inv_ths : ∀ k, Inv (thsR k) (fun l c => l.length = k ∧ c = l.flatMap encT)
  | 0 => Inv.pure [] ⟨rfl, rfl⟩
  | k + 1 => Inv.bind (inv_ths k) (fun l => inv_thing.map (R := fun l' c => ∃ x, l' = l ++ [x] ∧ c = encT x) (fun x => l ++ [x]) (fun x c h => ⟨x, rfl, h⟩)) (fun l => good_thing.map (fun x => l ++ [x])) (fun l c b c' h h' => by
      obtain ⟨h1, h2⟩ := h
      obtain ⟨x, rfl, rfl⟩ := h'
      exact ⟨by rw [List.length_append, h1]; rfl, by rw [List.flatMap_append, h2]; simp⟩)
def mkG (L : List PT) (p f : Int) (re : List Int) (wa : List (Int × Int)) (du : List Int) (la : Int) : PW := ⟨L, [], la, ⟨p, f, re, wa, du, ByteArray.empty, ByteArray.empty, 0, 0, []⟩⟩
def regsB4 (W : PW) : List Int := b4 W.R.proc ++ (b4 W.R.frame ++ (encL W.R.ready ++ (b4 W.R.wait.length ++ (W.R.wait.flatMap encWt ++ (encL W.R.due ++ b4 W.last)))))
section
variable (L : List PT)
theorem g6 (p f : Int) (re : List Int) (wa : List (Int × Int)) (du : List Int) : Good (fun s => (mkG L p f re wa du (numR s).1, (numR s).2)) := good_num.map (fun la => mkG L p f re wa du la)
theorem i6 (p f : Int) (re : List Int) (wa : List (Int × Int)) (du : List Int) : Inv (fun s => (mkG L p f re wa du (numR s).1, (numR s).2)) (fun W c => ∃ la, W = mkG L p f re wa du la ∧ c = b4 la) := inv_num.map (fun la => mkG L p f re wa du la) (fun la c h => ⟨la, rfl, h.1⟩)
def f5 (p f : Int) (re : List Int) (wa : List (Int × Int)) (s : RdS) : PW × RdS := (mkG L p f re wa (placesR s).1 (numR (placesR s).2).1, (numR (placesR s).2).2)
theorem g5 (p f : Int) (re : List Int) (wa : List (Int × Int)) : Good (f5 L p f re wa) := good_places.bind (fun du => g6 L p f re wa du)
theorem i5 (p f : Int) (re : List Int) (wa : List (Int × Int)) : Inv (f5 L p f re wa) (fun W c => ∃ du la, W = mkG L p f re wa du la ∧ c = encL du ++ b4 la) :=
  Inv.bind inv_places (fun du => i6 L p f re wa du) (fun du => g6 L p f re wa du) (fun du c W c' h h' => by
    obtain ⟨la, rfl, rfl⟩ := h'
    exact ⟨du, la, rfl, by rw [h]⟩)
def f4 (p f : Int) (re : List Int) (m : Int) (s : RdS) : PW × RdS := f5 L p f re (waitsR m.toNat s).1 (waitsR m.toNat s).2
theorem g4 (p f : Int) (re : List Int) (m : Int) : Good (f4 L p f re m) := (good_waits m.toNat).bind (fun wa => g5 L p f re wa)
theorem i4 (p f : Int) (re : List Int) (m : Int) : Inv (f4 L p f re m) (fun W c => ∃ wa du la, W = mkG L p f re wa du la ∧ wa.length = m.toNat ∧ c = wa.flatMap encWt ++ (encL du ++ b4 la)) :=
  Inv.bind (inv_waits m.toNat) (fun wa => i5 L p f re wa) (fun wa => g5 L p f re wa) (fun wa c W c' h h' => by
    obtain ⟨du, la, rfl, rfl⟩ := h'
    exact ⟨wa, du, la, rfl, h.1, by rw [h.2]⟩)
def f3 (p f : Int) (re : List Int) (s : RdS) : PW × RdS := f4 L p f re (countR 8 s).1 (countR 8 s).2
theorem g3' (p f : Int) (re : List Int) : Good (f3 L p f re) := (good_count 8).bind (fun m => g4 L p f re m)
theorem i3 (p f : Int) (re : List Int) : Inv (f3 L p f re) (fun W c => ∃ wa du la, W = mkG L p f re wa du la ∧ c = b4 wa.length ++ (wa.flatMap encWt ++ (encL du ++ b4 la))) :=
  Inv.bind (inv_count 8) (fun m => i4 L p f re m) (fun m => g4 L p f re m) (fun m c W c' h h' => by
    obtain ⟨rfl, m0, m1⟩ := h
    obtain ⟨wa, du, la, rfl, hl, rfl⟩ := h'
    refine ⟨wa, du, la, rfl, ?_⟩
    rw [hl, Int.toNat_of_nonneg m0])
def f2 (p f : Int) (s : RdS) : PW × RdS := f3 L p f (placesR s).1 (placesR s).2
theorem g2 (p f : Int) : Good (f2 L p f) := good_places.bind (fun re => g3' L p f re)
theorem i2 (p f : Int) : Inv (f2 L p f) (fun W c => ∃ re wa du la, W = mkG L p f re wa du la ∧ c = encL re ++ (b4 wa.length ++ (wa.flatMap encWt ++ (encL du ++ b4 la)))) :=
  Inv.bind inv_places (fun re => i3 L p f re) (fun re => g3' L p f re) (fun re c W c' h h' => by
    obtain ⟨wa, du, la, rfl, rfl⟩ := h'
    exact ⟨re, wa, du, la, rfl, by rw [h]⟩)
def f1 (p : Int) (s : RdS) : PW × RdS := f2 L p (numR s).1 (numR s).2
theorem g1 (p : Int) : Good (f1 L p) := good_num.bind (fun f => g2 L p f)
theorem i1 (p : Int) : Inv (f1 L p) (fun W c => ∃ f re wa du la, W = mkG L p f re wa du la ∧ c = b4 f ++ (encL re ++ (b4 wa.length ++ (wa.flatMap encWt ++ (encL du ++ b4 la))))) :=
  Inv.bind inv_num (fun f => i2 L p f) (fun f => g2 L p f) (fun f c W c' h h' => by
    obtain ⟨re, wa, du, la, rfl, rfl⟩ := h'
    exact ⟨f, re, wa, du, la, rfl, by rw [h.1]⟩)
theorem inv_regs : Inv (regsG L) (fun W c => W.L = L ∧ W = bareW W ∧ c = regsB4 W) := by
  have q : Inv (fun s => f1 L (numR s).1 (numR s).2) (fun W c => W.L = L ∧ W = bareW W ∧ c = regsB4 W) :=
    Inv.bind inv_num (fun p => i1 L p) (fun p => g1 L p) (fun p c W c' h h' => by
      obtain ⟨f, re, wa, du, la, rfl, rfl⟩ := h'
      exact ⟨rfl, rfl, by rw [h.1]; rfl⟩)
  exact q
end
theorem inv_world : Inv worldG (fun W c => W = bareW W ∧ c = b4 W.L.length ++ (W.L.flatMap encT ++ regsB4 W)) := by
  have h1 : ∀ n : Int, Inv (fun s => regsG (thsR n.toNat s).1 (thsR n.toNat s).2) (fun W c => W = bareW W ∧ W.L.length = n.toNat ∧ c = W.L.flatMap encT ++ regsB4 W) := fun n =>
    Inv.bind (inv_ths n.toNat) (fun L => inv_regs L) (fun L => good_regs L) (fun L c W c' h h' => by
      obtain ⟨rfl, e, rfl⟩ := h'
      exact ⟨e, h.1, by rw [h.2]⟩)
  exact Inv.bind (f := countR 1) (g := fun n s => regsG (thsR n.toNat s).1 (thsR n.toNat s).2) (inv_count 1) h1 (fun n => (good_ths n.toNat).bind (fun L => good_regs L)) (fun n c W c' h h' => by
    obtain ⟨rfl, n0, n1⟩ := h
    obtain ⟨e, hl, rfl⟩ := h'
    refine ⟨e, ?_⟩
    rw [hl, Int.toNat_of_nonneg n0])
theorem encW_form (W : PW) : encW W = [67, 81, 49] ++ (b4 W.L.length ++ (W.L.flatMap encT ++ regsB4 W)) := by
  unfold encW regsB4
  simp only [List.append_assoc]
/-- what is got is put byte for byte -/
theorem put_get {b : List Int} {W : PW} (hk : okB b) (h : getS b = (0, some W)) : checkB W = true ∧ putS W = (0, b) ∧ W = bareW W := by
  unfold getS at h
  by_cases hb : 65536 < b.length
  · rw [if_pos hb] at h
    exact absurd (congrArg Prod.snd h) (by intro q; cases q)
  · rw [if_neg hb, all_bytes] at h
    split at h
    · exact absurd (congrArg Prod.snd h) (by intro q; cases q)
    · rename_i hmag
      have hmg : b.take (min b.length 3) = magicL.take (min b.length 3) := Classical.byContradiction hmag
      split at h
      · rename_i he
        obtain ⟨h0, h1, h2⟩ := final_ok (bytesG b).1 (bytesG b).2 he
        have eW : (bytesG b).1 = W := by
          have := congrArg Prod.snd h
          injection this
        have hall : Inv (fun s => worldG (takeR 3 s).2) (fun W c => W = bareW W ∧ ∃ m, m.length = 3 ∧ c = m ++ (b4 W.L.length ++ (W.L.flatMap encT ++ regsB4 W))) :=
          Inv.bind (f := takeR 3) (g := fun _ => worldG) (inv_take 3) (fun _ => inv_world) (fun _ => good_world) (fun m c W c' h h' => by
            obtain ⟨rfl, h3, _⟩ := h
            obtain ⟨e, rfl⟩ := h'
            exact ⟨e, c, h3, rfl⟩)
        obtain ⟨c, k, hc, e1, hkl, e, m, hm3, ec⟩ := hall b hk h0
        replace e1 : (bytesG b).2 = ⟨b.drop k, 0⟩ := e1
        replace e : (bytesG b).1 = bareW (bytesG b).1 := e
        replace ec : c = m ++ (b4 (bytesG b).1.L.length ++ ((bytesG b).1.L.flatMap encT ++ regsB4 (bytesG b).1)) := ec
        rw [e1] at h1
        replace h1 : b.drop k = [] := h1
        have hkb : b.length ≤ k := by
          have := congrArg List.length h1
          rw [List.length_drop] at this
          simp at this
          omega
        have hcb : c = b := by rw [hc, List.take_of_length_le hkb]
        rw [eW] at e ec h2
        rw [hcb] at ec
        have h3b : 3 ≤ b.length := by rw [ec, List.length_append]; omega
        have hm : m = [67, 81, 49] := by
          have q := hmg
          rw [show min b.length 3 = 3 by omega] at q
          rw [ec, show (3 : Nat) = m.length from hm3.symm, List.take_left] at q
          rw [q, hm3]; rfl
        have eb : encW W = b := by rw [encW_form, ec, hm]
        have hd : W.dead.contains true = false := by rw [e]; rfl
        refine ⟨h2, ?_, e⟩
        unfold putS
        rw [if_neg (by rw [h2, hd]; decide), eb, if_neg hb]
      · exact absurd (congrArg Prod.snd h) (by intro q; cases q)
end Go.Proofs.Ytadhkmplhgcgkaa.World
