/-
  CutPlain, InvPlain, as one text (a claim has at most 60 files).
-/
import Derived.Test.YtadhkmplhgcgkaaMb28
namespace Go.Proofs.Ytadhkmplhgcgkaa.World
open Go.RowKit Go.Proofs.Ytadhkmplhgcgkaa.Plain
set_option linter.unusedVariables false
/-- a reading that was well is short where its bytes are cut, or reads the same -/
structure Good {α : Type} (f : RdS → α × RdS) : Prop where
  stay : ∀ s, s.e ≠ 0 → (f s).2 = s
  cut : ∀ (l : List Int) (m : Nat), (f ⟨l, 0⟩).2.e = 0 → (f ⟨l.take m, 0⟩).2.e = 3 ∨ ∃ k, k ≤ m ∧ k ≤ l.length ∧ (f ⟨l, 0⟩).2 = ⟨l.drop k, 0⟩ ∧ f ⟨l.take m, 0⟩ = ((f ⟨l, 0⟩).1, ⟨(l.drop k).take (m - k), 0⟩)
theorem Good.bind {α β : Type} {f : RdS → α × RdS} {g : α → RdS → β × RdS} (hf : Good f) (hg : ∀ a, Good (g a)) : Good (fun s => g (f s).1 (f s).2) := by
  refine ⟨fun s hs => ?_, fun l m h => ?_⟩
  · show (g (f s).1 (f s).2).2 = s
    rw [hf.stay s hs]
    exact (hg _).stay s hs
  · replace h : (g (f ⟨l, 0⟩).1 (f ⟨l, 0⟩).2).2.e = 0 := h
    have h1 : (f ⟨l, 0⟩).2.e = 0 := by
      by_cases e : (f ⟨l, 0⟩).2.e = 0
      · exact e
      · rw [(hg _).stay _ e] at h; exact absurd h e
    rcases hf.cut l m h1 with h3 | ⟨k, hk, hkl, e1, e2⟩
    · refine .inl ?_
      show (g (f ⟨l.take m, 0⟩).1 (f ⟨l.take m, 0⟩).2).2.e = 3
      rw [(hg _).stay _ (by rw [h3]; decide)]
      exact h3
    · show (g (f ⟨l.take m, 0⟩).1 (f ⟨l.take m, 0⟩).2).2.e = 3 ∨ ∃ k, k ≤ m ∧ k ≤ l.length ∧ (g (f ⟨l, 0⟩).1 (f ⟨l, 0⟩).2).2 = ⟨l.drop k, 0⟩ ∧ g (f ⟨l.take m, 0⟩).1 (f ⟨l.take m, 0⟩).2 = ((g (f ⟨l, 0⟩).1 (f ⟨l, 0⟩).2).1, ⟨(l.drop k).take (m - k), 0⟩)
      rw [e2]
      rw [e1] at h ⊢
      rcases (hg (f ⟨l, 0⟩).1).cut (l.drop k) (m - k) h with h4 | ⟨k2, hk2, hkl2, e3, e4⟩
      · exact .inl h4
      · refine .inr ⟨k + k2, by omega, by rw [List.length_drop] at hkl2; omega, ?_, ?_⟩
        · rw [e3, List.drop_drop]
        · show g (f ⟨l, 0⟩).1 ⟨(l.drop k).take (m - k), 0⟩ = _
          rw [e4, List.drop_drop, show m - (k + k2) = m - k - k2 by omega]
theorem Good.map {α β : Type} {f : RdS → α × RdS} (hf : Good f) (φ : α → β) : Good (fun s => (φ (f s).1, (f s).2)) :=
  ⟨hf.stay, fun l m h => by
    rcases hf.cut l m h with h3 | ⟨k, hk, hkl, e1, e2⟩
    · exact .inl h3
    · exact .inr ⟨k, hk, hkl, e1, by
        show (φ (f ⟨l.take m, 0⟩).1, (f ⟨l.take m, 0⟩).2) = _
        rw [e2]⟩⟩
theorem Good.pure {α : Type} (a : α) : Good (fun s => (a, s)) :=
  ⟨fun s _ => rfl, fun l m _ => .inr ⟨0, by omega, by omega, rfl, by simp⟩⟩
theorem good_take (n : Nat) : Good (takeR n) := by
  refine ⟨fun s hs => stay_take hs, fun l m h => ?_⟩
  have hn : n ≤ l.length := by
    by_cases e : n ≤ l.length
    · exact e
    · exfalso
      unfold takeR at h
      rw [if_pos rfl, if_neg e] at h
      exact absurd h (by show ¬ (3 : Int) = 0; decide)
  have e1 : takeR n ⟨l, 0⟩ = (l.take n, ⟨l.drop n, 0⟩) := by unfold takeR; rw [if_pos rfl, if_pos hn]
  by_cases hm : n ≤ m
  · refine .inr ⟨n, hm, hn, by rw [e1], ?_⟩
    unfold takeR
    rw [if_pos rfl, if_pos (by show n ≤ (l.take m).length; rw [List.length_take]; omega), if_pos rfl, if_pos hn]
    show ((l.take m).take n, _) = (l.take n, _)
    rw [List.take_take, Nat.min_eq_left hm, List.drop_take]
  · refine .inl ?_
    unfold takeR
    rw [if_pos rfl, if_neg (by show ¬ n ≤ (l.take m).length; rw [List.length_take]; omega)]
theorem good_num : Good numR := (good_take 4).map beV
theorem good_short (p : Int) (n : Int) : Good (fun s => ((if (shortR p s).e = 0 then n else 0), shortR p s)) := by
  refine ⟨fun s hs => stay_short hs, fun l m h => ?_⟩
  have hp : p ≤ (l.length : Int) := by
    by_cases e : p ≤ (l.length : Int)
    · exact e
    · exfalso
      replace h : (shortR p ⟨l, 0⟩).e = 0 := h
      unfold shortR at h
      rw [if_pos (by show (l.length : Int) < p; omega)] at h
      exact absurd h (by show ¬ (3 : Int) = 0; decide)
  have e1 : shortR p ⟨l, 0⟩ = ⟨l, 0⟩ := by unfold shortR; rw [if_neg (by show ¬ (l.length : Int) < p; omega)]
  by_cases hm : p ≤ ((l.take m).length : Int)
  · have e2 : shortR p ⟨l.take m, 0⟩ = ⟨l.take m, 0⟩ := by unfold shortR; rw [if_neg (by show ¬ ((l.take m).length : Int) < p; omega)]
    refine .inr ⟨0, by omega, by omega, e1, ?_⟩
    show ((if (shortR p ⟨l.take m, 0⟩).e = 0 then n else 0), shortR p ⟨l.take m, 0⟩) = ((if (shortR p ⟨l, 0⟩).e = 0 then n else 0), _)
    rw [e1, e2]
    simp
  · refine .inl ?_
    show (shortR p ⟨l.take m, 0⟩).e = 3
    unfold shortR
    rw [if_pos (by show ((l.take m).length : Int) < p; omega)]
    rfl
theorem good_count (each : Int) : Good (countR each) := by
  have h := good_num.bind (fun n => good_short (n * each) n)
  have e : (fun s => ((if (shortR ((numR s).1 * each) (numR s).2).e = 0 then (numR s).1 else 0), shortR ((numR s).1 * each) (numR s).2)) = countR each := by
    funext s
    unfold countR
    split <;> rfl
  rw [← e]
  exact h
theorem good_val : Good valR := good_num.map (fun n => if isIntB n = true then (⟨false, intOfW n⟩ : PV) else ⟨true, refOfW n⟩)
theorem good_nums : ∀ k, Good (numsR k)
  | 0 => Good.pure []
  | k + 1 => (good_nums k).bind (fun l => good_num.map (fun x => l ++ [x]))
theorem good_vals : ∀ k, Good (valsR k)
  | 0 => Good.pure []
  | k + 1 => (good_vals k).bind (fun l => good_val.map (fun x => l ++ [x]))
theorem good_places : Good placesR := (good_count 4).bind (fun n => good_nums n.toNat)
theorem good_waits : ∀ k, Good (waitsR k)
  | 0 => Good.pure []
  | k + 1 => (good_waits k).bind (fun l => good_num.bind (fun a => good_num.map (fun b => l ++ [(a, b)])))
theorem good_kind (kd : Int) : Good (fun s => (kd, if fmtK kd < 1 ∨ 3 < fmtK kd then wrongR 4 s else s)) := by
  by_cases hb : fmtK kd < 1 ∨ 3 < fmtK kd
  · refine ⟨fun s hs => by show (if _ then _ else _) = s; rw [if_pos hb]; exact stay_wrong hs, fun l m h => ?_⟩
    exfalso
    replace h : (if fmtK kd < 1 ∨ 3 < fmtK kd then wrongR 4 ⟨l, 0⟩ else (⟨l, 0⟩ : RdS)).e = 0 := h
    rw [if_pos hb] at h
    exact absurd h (by show ¬ (4 : Int) = 0; decide)
  · have e : (fun s : RdS => (kd, if fmtK kd < 1 ∨ 3 < fmtK kd then wrongR 4 s else s)) = fun s => (kd, s) := by funext s; rw [if_neg hb]
    rw [e]
    exact Good.pure kd
theorem good_body (c k h : Int) : Good (bodyR c k h) := by
  by_cases h3 : fmtK k = 3
  · have g := (good_count 1).bind (fun n => (good_take n.toNat).map (fun bs => (⟨c, fmtK k, h, finK k, [], strI bs⟩ : PT)))
    have e : (fun s => ((⟨c, fmtK k, h, finK k, [], strI (takeR (countR 1 s).1.toNat (countR 1 s).2).1⟩ : PT), (takeR (countR 1 s).1.toNat (countR 1 s).2).2)) = bodyR c k h := by
      funext s
      unfold bodyR
      rw [if_pos h3]
    rw [← e]
    exact g
  · have g := (good_count 4).bind (fun n => (good_vals n.toNat).map (fun F => (⟨c, fmtK k, h, finK k, F, ByteArray.empty⟩ : PT)))
    have e : (fun s => ((⟨c, fmtK k, h, finK k, (valsR (countR 4 s).1.toNat (countR 4 s).2).1, ByteArray.empty⟩ : PT), (valsR (countR 4 s).1.toNat (countR 4 s).2).2)) = bodyR c k h := by
      funext s
      unfold bodyR
      rw [if_neg h3]
    rw [← e]
    exact g
theorem good_thing : Good thingR :=
  good_num.bind (fun c => good_num.bind (fun k0 => (good_kind k0).bind (fun k => good_num.bind (fun h => good_body c k h))))
theorem good_ths : ∀ k, Good (thsR k)
  | 0 => Good.pure []
  | k + 1 => (good_ths k).bind (fun l => good_thing.map (fun x => l ++ [x]))
theorem good_regs (L : List PT) : Good (regsG L) :=
  good_num.bind (fun p => good_num.bind (fun f => good_places.bind (fun re => (good_count 8).bind (fun m => (good_waits m.toNat).bind (fun wa => good_places.bind (fun du => good_num.map (fun la => (⟨L, [], la, ⟨p, f, re, wa, du, ByteArray.empty, ByteArray.empty, 0, 0, []⟩⟩ : PW))))))))
def worldG (s : RdS) : PW × RdS := regsG (thsR (countR 1 s).1.toNat (countR 1 s).2).1 (thsR (countR 1 s).1.toNat (countR 1 s).2).2
theorem good_world : Good worldG := (good_count 1).bind (fun n => (good_ths n.toNat).bind (fun L => good_regs L))
theorem all_world (s : RdS) : allG s = ((worldG s).1, seenR (worldG s).1 (overR (worldG s).2)) := rfl
theorem final_ok (W : PW) (s : RdS) (h : (seenR W (overR s)).e = 0) : s.e = 0 ∧ s.b = [] ∧ checkB W = true := by
  have h0 : s.e = 0 := by
    by_cases e : s.e = 0
    · exact e
    · rw [stay_over e, stay_seen e] at h; exact absurd h e
  have hb : s.b = [] := by
    by_cases e : s.b = []
    · exact e
    · exfalso
      have hp : 0 < s.b.length := by
        cases hq : s.b with
        | nil => exact absurd hq e
        | cons a t => simp
      have ho : overR s = ⟨s.b, 4⟩ := by
        unfold overR wrongR
        rw [if_pos hp, if_pos h0]
      rw [ho, stay_seen (by show ¬ (4 : Int) = 0; decide)] at h
      exact absurd h (by show ¬ (4 : Int) = 0; decide)
  refine ⟨h0, hb, ?_⟩
  have ho : overR s = s := by
    unfold overR
    rw [hb, if_neg (by simp)]
  rw [ho] at h
  unfold seenR at h
  cases hc : checkB W with
  | true => rfl
  | false =>
    exfalso
    rw [if_pos ⟨h0, hc⟩] at h
    unfold wrongR at h
    rw [if_pos h0] at h
    exact absurd h (by show ¬ (5 : Int) = 0; decide)
theorem final_bad (W : PW) (s : RdS) (h : s.e ≠ 0) : (seenR W (overR s)).e = s.e := by rw [stay_over h, stay_seen h]
def bytesG (l : List Int) : PW × RdS := worldG (takeR 3 ⟨l, 0⟩).2
theorem good_bytes : Good (fun s => worldG (takeR 3 s).2) := (good_take 3).bind (fun _ => good_world)
theorem cut_bytes {l : List Int} {m : Nat} (h0 : (bytesG l).2.e = 0) (hb : (bytesG l).2.b = []) (hm : m < l.length) : (bytesG (l.take m)).2.e = 3 := by
  rcases good_bytes.cut l m h0 with h3 | ⟨k, hk, hkl, e1, _⟩
  · exact h3
  · exfalso
    have e2 : (bytesG l).2.b = l.drop k := congrArg RdS.b e1
    rw [hb] at e2
    have := congrArg List.length e2
    rw [List.length_drop] at this
    simp at this
    omega
theorem all_bytes (l : List Int) : allG (takeR 3 ⟨l, 0⟩).2 = ((bytesG l).1, seenR (bytesG l).1 (overR (bytesG l).2)) := rfl
/-- what is cut is none -/
theorem get_cut {l : List Int} {W : PW} (h : getS l = (0, some W)) (hl : l.length ≤ 65536) {m : Nat} (hm : m < l.length) : getS (l.take m) = (3, none) := by
  have hb : ¬ 65536 < l.length := by omega
  have hb2 : ¬ 65536 < (l.take m).length := by rw [List.length_take]; omega
  unfold getS at h ⊢
  rw [if_neg hb, all_bytes] at h
  rw [if_neg hb2, all_bytes]
  have hcut := fun a b => cut_bytes (l := l) (m := m) a b hm
  generalize bytesG (l.take m) = r2 at *
  generalize bytesG l = r at *
  split at h
  · exact absurd (congrArg Prod.snd h) (by intro q; cases q)
  · rename_i hmag
    have hmg : l.take (min l.length 3) = magicL.take (min l.length 3) := Classical.byContradiction hmag
    split at h
    · rename_i he
      obtain ⟨h0, h1, _⟩ := final_ok r.1 r.2 he
      have h3 := hcut h0 h1
      have hmag2 : ¬ (l.take m).take (min (l.take m).length 3) ≠ magicL.take (min (l.take m).length 3) := by
        intro hne
        apply hne
        have e1 : min (l.take m).length 3 = min m 3 := by rw [List.length_take]; omega
        rw [e1, List.take_take, show min (min m 3) m = min m 3 by omega]
        have e2 : l.take (min m 3) = (l.take (min l.length 3)).take (min m 3) := by rw [List.take_take]; congr 1; omega
        rw [e2, hmg, List.take_take]
        congr 1; omega
      rw [if_neg hmag2]
      have hal := final_bad r2.1 r2.2 (by rw [h3]; decide)
      rw [h3] at hal
      rw [if_neg (by show ¬ (seenR r2.1 (overR r2.2)).e = 0; rw [hal]; decide)]
      show ((seenR r2.1 (overR r2.2)).e, none) = _
      rw [hal]
    · exact absurd (congrArg Prod.snd h) (by intro q; cases q)
end Go.Proofs.Ytadhkmplhgcgkaa.World
namespace Go.Proofs.Ytadhkmplhgcgkaa.World
open Go.RowKit Go.Proofs.Ytadhkmplhgcgkaa.Plain
set_option linter.unusedVariables false
/-- what was read well has these bytes -/
def Inv {α : Type} (f : RdS → α × RdS) (P : α → List Int → Prop) : Prop := ∀ l, okB l → (f ⟨l, 0⟩).2.e = 0 → ∃ c k, c = l.take k ∧ (f ⟨l, 0⟩).2 = ⟨l.drop k, 0⟩ ∧ k ≤ l.length ∧ P (f ⟨l, 0⟩).1 c
theorem Inv.bind {α β : Type} {f : RdS → α × RdS} {g : α → RdS → β × RdS} {P : α → List Int → Prop} {Q : α → β → List Int → Prop} {R : β → List Int → Prop} (hf : Inv f P) (hg : ∀ a, Inv (g a) (Q a)) (st : ∀ a, Good (g a)) (hR : ∀ a c b c', P a c → Q a b c' → R b (c ++ c')) : Inv (fun s => g (f s).1 (f s).2) R := by
  intro l hl h
  replace h : (g (f ⟨l, 0⟩).1 (f ⟨l, 0⟩).2).2.e = 0 := h
  have h1 : (f ⟨l, 0⟩).2.e = 0 := by
    by_cases e : (f ⟨l, 0⟩).2.e = 0
    · exact e
    · rw [(st _).stay _ e] at h; exact absurd h e
  obtain ⟨c, k, hc, e1, hk, p⟩ := hf l hl h1
  show ∃ c k, c = l.take k ∧ (g (f ⟨l, 0⟩).1 (f ⟨l, 0⟩).2).2 = ⟨l.drop k, 0⟩ ∧ k ≤ l.length ∧ R (g (f ⟨l, 0⟩).1 (f ⟨l, 0⟩).2).1 c
  rw [e1] at h ⊢
  obtain ⟨c', k', hc', e2, hk', q⟩ := hg (f ⟨l, 0⟩).1 (l.drop k) (fun x hx => hl x (List.mem_of_mem_drop hx)) h
  rw [List.length_drop] at hk'
  refine ⟨c ++ c', k + k', ?_, by rw [e2, List.drop_drop], by omega, hR _ _ _ _ p q⟩
  rw [hc, hc', List.take_add]
theorem Inv.map {α β : Type} {f : RdS → α × RdS} {P : α → List Int → Prop} {R : β → List Int → Prop} (hf : Inv f P) (φ : α → β) (hR : ∀ a c, P a c → R (φ a) c) : Inv (fun s => (φ (f s).1, (f s).2)) R := by
  intro l hl h
  obtain ⟨c, k, hc, e1, hk, p⟩ := hf l hl h
  exact ⟨c, k, hc, e1, hk, hR _ _ p⟩
theorem Inv.pure {α : Type} (a : α) {P : α → List Int → Prop} (h : P a []) : Inv (fun s => (a, s)) P := fun l _ _ => ⟨[], 0, rfl, rfl, Nat.zero_le _, h⟩
theorem inv_take (n : Nat) : Inv (takeR n) (fun bs c => c = bs ∧ bs.length = n ∧ okB bs) := by
  intro l hl h
  have hn : n ≤ l.length := by
    by_cases e : n ≤ l.length
    · exact e
    · exfalso
      unfold takeR at h
      rw [if_pos rfl, if_neg e] at h
      exact absurd h (by show ¬ (3 : Int) = 0; decide)
  have e1 : takeR n ⟨l, 0⟩ = (l.take n, ⟨l.drop n, 0⟩) := by unfold takeR; rw [if_pos rfl, if_pos hn]
  refine ⟨l.take n, n, rfl, by rw [e1], hn, ?_⟩
  rw [e1]
  exact ⟨rfl, by rw [List.length_take]; omega, fun x hx => hl x (List.mem_of_mem_take hx)⟩
def Pn (n : Int) (c : List Int) : Prop := c = b4 n ∧ 0 ≤ n ∧ n < 4294967296
theorem inv_num : Inv numR Pn := (inv_take 4).map beV (fun bs c h => by
  obtain ⟨rfl, h4, hk⟩ := h
  match c, h4, hk with
  | [a, b, d, e], _, hk =>
    have ha := hk a (by simp)
    have hb := hk b (by simp)
    have hd := hk d (by simp)
    have he := hk e (by simp)
    have ev : beV [a, b, d, e] = (((0 * 256 + a) * 256 + b) * 256 + d) * 256 + e := rfl
    refine ⟨?_, by rw [ev]; omega, by rw [ev]; omega⟩
    rw [ev]
    unfold b4
    have e1 : ((((0 * 256 + a) * 256 + b) * 256 + d) * 256 + e) / 16777216 = a := by omega
    have e2 : ((((0 * 256 + a) * 256 + b) * 256 + d) * 256 + e) / 65536 % 256 = b := by omega
    have e3 : ((((0 * 256 + a) * 256 + b) * 256 + d) * 256 + e) / 256 % 256 = d := by omega
    have e4 : ((((0 * 256 + a) * 256 + b) * 256 + d) * 256 + e) % 256 = e := by omega
    rw [e1, e2, e3, e4])
theorem inv_short (p n : Int) : Inv (fun s => ((if (shortR p s).e = 0 then n else 0), shortR p s)) (fun m c => m = n ∧ c = []) := by
  intro l hl h
  replace h : (shortR p ⟨l, 0⟩).e = 0 := h
  have hp : p ≤ (l.length : Int) := by
    by_cases e : p ≤ (l.length : Int)
    · exact e
    · exfalso
      unfold shortR at h
      rw [if_pos (by show (l.length : Int) < p; omega)] at h
      exact absurd h (by show ¬ (3 : Int) = 0; decide)
  have e1 : shortR p ⟨l, 0⟩ = ⟨l, 0⟩ := by unfold shortR; rw [if_neg (by show ¬ (l.length : Int) < p; omega)]
  refine ⟨[], 0, rfl, e1, Nat.zero_le _, ?_, rfl⟩
  show (if (shortR p ⟨l, 0⟩).e = 0 then n else 0) = n
  rw [if_pos h]
theorem inv_count (each : Int) : Inv (countR each) Pn := by
  have h := Inv.bind (R := Pn) inv_num (fun n => inv_short (n * each) n) (fun n => good_short (n * each) n) (fun a c b c' h h' => by
    obtain ⟨rfl, rfl⟩ := h'
    rw [List.append_nil]; exact h)
  have e : (fun s => ((if (shortR ((numR s).1 * each) (numR s).2).e = 0 then (numR s).1 else 0), shortR ((numR s).1 * each) (numR s).2)) = countR each := by
    funext s
    unfold countR
    split <;> rfl
  rw [← e]
  exact h
def Pv (v : PV) (c : List Int) : Prop := c = b4 (valW v)
theorem inv_val : Inv valR Pv := inv_num.map (fun n => if isIntB n = true then (⟨false, intOfW n⟩ : PV) else ⟨true, refOfW n⟩) (fun n c h => by
  obtain ⟨rfl, n0, n1⟩ := h
  unfold Pv
  congr 1
  by_cases hi : isIntB n = true
  · rw [if_pos hi]
    have h2 : n % 2 = 1 := by unfold isIntB at hi; simpa using hi
    unfold valW intW cutI intOfW
    simp only [Bool.false_eq_true, if_false, if_pos h2]
    repeat' split
    all_goals omega
  · rw [if_neg hi]
    have h2 : n % 2 = 0 := by
      rcases Int.emod_two_eq n with h | h
      · exact h
      · exfalso; apply hi; unfold isIntB; simp [h]
    unfold valW refW refOfW
    simp only [if_true]
    repeat' split
    all_goals omega)
theorem inv_nums : ∀ k, Inv (numsR k) (fun l c => l.length = k ∧ c = l.flatMap b4)
  | 0 => Inv.pure [] ⟨rfl, rfl⟩
  | k + 1 => Inv.bind (inv_nums k) (fun l => inv_num.map (R := fun l' c => ∃ x, l' = l ++ [x] ∧ c = b4 x) (fun x => l ++ [x]) (fun x c h => ⟨x, rfl, h.1⟩)) (fun l => good_num.map (fun x => l ++ [x])) (fun l c b c' h h' => by
      obtain ⟨h1, h2⟩ := h
      obtain ⟨x, rfl, rfl⟩ := h'
      exact ⟨by rw [List.length_append, h1]; rfl, by rw [List.flatMap_append, h2]; simp⟩)
theorem inv_vals : ∀ k, Inv (valsR k) (fun l c => l.length = k ∧ c = l.flatMap (fun u => b4 (valW u)))
  | 0 => Inv.pure [] ⟨rfl, rfl⟩
  | k + 1 => Inv.bind (inv_vals k) (fun l => inv_val.map (R := fun l' c => ∃ x, l' = l ++ [x] ∧ c = b4 (valW x)) (fun x => l ++ [x]) (fun x c h => ⟨x, rfl, h⟩)) (fun l => good_val.map (fun x => l ++ [x])) (fun l c b c' h h' => by
      obtain ⟨h1, h2⟩ := h
      obtain ⟨x, rfl, rfl⟩ := h'
      exact ⟨by rw [List.length_append, h1]; rfl, by rw [List.flatMap_append, h2]; simp⟩)
theorem inv_places : Inv placesR (fun l c => c = encL l) := Inv.bind (inv_count 4) (fun n => inv_nums n.toNat) (fun n => good_nums n.toNat) (fun n c l c' h h' => by
  obtain ⟨rfl, n0, n1⟩ := h
  obtain ⟨h1, rfl⟩ := h'
  unfold encL
  rw [h1, Int.toNat_of_nonneg n0])
theorem inv_waits : ∀ k, Inv (waitsR k) (fun l c => l.length = k ∧ c = l.flatMap encWt)
  | 0 => Inv.pure [] ⟨rfl, rfl⟩
  | k + 1 => Inv.bind (inv_waits k) (fun l => Inv.bind (R := fun l' c => ∃ p, l' = l ++ [p] ∧ c = encWt p) inv_num (fun a => inv_num.map (R := fun l' c => ∃ b, l' = l ++ [(a, b)] ∧ c = b4 b) (fun b => l ++ [(a, b)]) (fun b c h => ⟨b, rfl, h.1⟩)) (fun a => good_num.map (fun b => l ++ [(a, b)])) (fun a c l' c' h h' => by
        obtain ⟨b, rfl, rfl⟩ := h'
        exact ⟨(a, b), rfl, by rw [h.1]; rfl⟩)) (fun l => good_num.bind (fun a => good_num.map (fun b => l ++ [(a, b)]))) (fun l c b c' h h' => by
      obtain ⟨h1, h2⟩ := h
      obtain ⟨x, rfl, rfl⟩ := h'
      exact ⟨by rw [List.length_append, h1]; rfl, by rw [List.flatMap_append, h2]; simp⟩)
theorem inv_kind (kd : Int) : Inv (fun s => (kd, if fmtK kd < 1 ∨ 3 < fmtK kd then wrongR 4 s else s)) (fun k c => k = kd ∧ c = [] ∧ 1 ≤ fmtK kd ∧ fmtK kd ≤ 3) := by
  intro l hl h
  replace h : (if fmtK kd < 1 ∨ 3 < fmtK kd then wrongR 4 ⟨l, 0⟩ else (⟨l, 0⟩ : RdS)).e = 0 := h
  have hb : ¬ (fmtK kd < 1 ∨ 3 < fmtK kd) := fun hb => by
    rw [if_pos hb] at h
    exact absurd h (by show ¬ (4 : Int) = 0; decide)
  refine ⟨[], 0, rfl, ?_, Nat.zero_le _, rfl, rfl, by omega, by omega⟩
  show (if fmtK kd < 1 ∨ 3 < fmtK kd then wrongR 4 ⟨l, 0⟩ else (⟨l, 0⟩ : RdS)) = _
  rw [if_neg hb]; rfl
/-- the bytes of a thing's body -/
def bodyB (t : PT) : List Int := if t.fmt = 3 then b4 t.B.size ++ bytesI t.B else b4 t.F.length ++ t.F.flatMap (fun u => b4 (valW u))
theorem inv_body (c0 k h : Int) : Inv (bodyR c0 k h) (fun t c => c = bodyB t ∧ t.cls = c0 ∧ t.fmt = fmtK k ∧ t.hash = h ∧ t.fin = finK k) := by
  by_cases h3 : fmtK k = 3
  · have g := Inv.bind (R := fun t c => c = bodyB t ∧ t.cls = c0 ∧ t.fmt = fmtK k ∧ t.hash = h ∧ t.fin = finK k) (inv_count 1) (fun n => (inv_take n.toNat).map (R := fun t c => ∃ bs, t = (⟨c0, fmtK k, h, finK k, [], strI bs⟩ : PT) ∧ c = bs ∧ bs.length = n.toNat ∧ okB bs) (fun bs => (⟨c0, fmtK k, h, finK k, [], strI bs⟩ : PT)) (fun bs c h => ⟨bs, rfl, h⟩)) (fun n => (good_take n.toNat).map (fun bs => (⟨c0, fmtK k, h, finK k, [], strI bs⟩ : PT))) (fun n c t c' h1 h2 => by
      obtain ⟨rfl, n0, n1⟩ := h1
      obtain ⟨bs, rfl, rfl, hl, hk⟩ := h2
      refine ⟨?_, rfl, rfl, rfl, rfl⟩
      unfold bodyB
      rw [if_pos h3]
      have e := bytesI_str _ c' rfl hk
      show b4 n ++ c' = b4 ((strI c').size : Int) ++ bytesI (strI c')
      have e2 : (strI c').size = n.toNat := by rw [← bytesI_len, e, hl]
      rw [e, e2, Int.toNat_of_nonneg n0])
    have e : (fun s => ((⟨c0, fmtK k, h, finK k, [], strI (takeR (countR 1 s).1.toNat (countR 1 s).2).1⟩ : PT), (takeR (countR 1 s).1.toNat (countR 1 s).2).2)) = bodyR c0 k h := by
      funext s
      unfold bodyR
      rw [if_pos h3]
    rw [← e]
    exact g
  · have g := Inv.bind (R := fun t c => c = bodyB t ∧ t.cls = c0 ∧ t.fmt = fmtK k ∧ t.hash = h ∧ t.fin = finK k) (inv_count 4) (fun n => (inv_vals n.toNat).map (R := fun t c => ∃ F, t = (⟨c0, fmtK k, h, finK k, F, ByteArray.empty⟩ : PT) ∧ F.length = n.toNat ∧ c = F.flatMap (fun u => b4 (valW u))) (fun F => (⟨c0, fmtK k, h, finK k, F, ByteArray.empty⟩ : PT)) (fun F c h => ⟨F, rfl, h⟩)) (fun n => (good_vals n.toNat).map (fun F => (⟨c0, fmtK k, h, finK k, F, ByteArray.empty⟩ : PT))) (fun n c t c' h1 h2 => by
      obtain ⟨rfl, n0, n1⟩ := h1
      obtain ⟨F, rfl, hl, rfl⟩ := h2
      refine ⟨?_, rfl, rfl, rfl, rfl⟩
      unfold bodyB
      rw [if_neg h3]
      show b4 n ++ _ = b4 (F.length : Int) ++ _
      rw [hl, Int.toNat_of_nonneg n0])
    have e : (fun s => ((⟨c0, fmtK k, h, finK k, (valsR (countR 4 s).1.toNat (countR 4 s).2).1, ByteArray.empty⟩ : PT), (valsR (countR 4 s).1.toNat (countR 4 s).2).2)) = bodyR c0 k h := by
      funext s
      unfold bodyR
      rw [if_neg h3]
    rw [← e]
    exact g
theorem kind_of {k : Int} (k0 : 0 ≤ k) (k1 : k < 4294967296) (f : 1 ≤ fmtK k ∧ fmtK k ≤ 3) {t : PT} (h1 : t.fmt = fmtK k) (h2 : t.fin = finK k) : kindT t = k := by
  unfold kindT
  rw [h1, h2]
  unfold fmtK at f ⊢
  unfold finK
  have hm : k / 4 % 2 = 0 ∨ k / 4 % 2 = 1 := by omega
  rcases hm with hm | hm
  · rw [hm]; simp
  · rw [hm] at f ⊢; simp
theorem inv_thing : Inv thingR (fun t c => c = encT t) :=
  Inv.bind inv_num (fun c0 => Inv.bind (R := fun t c => ∃ k h, c = b4 k ++ (b4 h ++ bodyB t) ∧ t.cls = c0 ∧ t.hash = h ∧ kindT t = k) inv_num (fun k0 => Inv.bind (R := fun t c => ∃ h, c = b4 h ++ bodyB t ∧ t.cls = c0 ∧ t.fmt = fmtK k0 ∧ t.hash = h ∧ t.fin = finK k0 ∧ 1 ≤ fmtK k0 ∧ fmtK k0 ≤ 3) (inv_kind k0) (fun k => Inv.bind (R := fun t c => ∃ h, c = b4 h ++ bodyB t ∧ t.cls = c0 ∧ t.fmt = fmtK k ∧ t.hash = h ∧ t.fin = finK k) inv_num (fun h => inv_body c0 k h) (fun h => good_body c0 k h) (fun h c t c' h1 h2 => by
      obtain ⟨rfl, a, b, d, e⟩ := h2
      exact ⟨h, by rw [h1.1], a, b, d, e⟩)) (fun k => good_num.bind (fun h => good_body c0 k h)) (fun k c t c' h1 h2 => by
      obtain ⟨rfl, rfl, f1, f2⟩ := h1
      obtain ⟨h, e1, a, b, d, e⟩ := h2
      exact ⟨h, e1, a, b, d, e, f1, f2⟩)) (fun k0 => (good_kind k0).bind (fun k => good_num.bind (fun h => good_body c0 k h))) (fun k0 c t c' h1 h2 => by
      obtain ⟨rfl, k1, k2⟩ := h1
      obtain ⟨h, rfl, a, b, d, e, f1, f2⟩ := h2
      exact ⟨k0, h, rfl, a, d, kind_of k1 k2 ⟨f1, f2⟩ b e⟩)) (fun c0 => good_num.bind (fun k0 => (good_kind k0).bind (fun k => good_num.bind (fun h => good_body c0 k h)))) (fun c0 c t c' h1 h2 => by
      obtain ⟨rfl, _, _⟩ := h1
      obtain ⟨k, h, rfl, rfl, rfl, rfl⟩ := h2
      unfold encT bodyB
      simp only [List.append_assoc])
end Go.Proofs.Ytadhkmplhgcgkaa.World
