/-
  CutPlain, as one text (a claim has at most 60 files).
-/
import Derived.Test.YtadhkmplhgcgkaaMc30
namespace Go.Proofs.Ytadhkmplhgcgkaa.World
open Go.RowKit Go.Proofs.Ytadhkmplhgcgkaa.Plain
set_option linter.unusedVariables false
/-- a reading that was well is short where its bytes are cut, or reads the same -/
structure Good {α : Type} (f : RdS → α × RdS) : Prop where
  stay : ∀ s, s.e ≠ 0 → (f s).2 = s
  cut : ∀ (l : List Int) (m : Nat), (f ⟨l, 0⟩).2.e = 0 → (f ⟨l.take m, 0⟩).2.e = 3 ∨ ∃ k, k ≤ m ∧ k ≤ l.length ∧ (f ⟨l, 0⟩).2 = ⟨l.drop k, 0⟩ ∧ f ⟨l.take m, 0⟩ = ((f ⟨l, 0⟩).1, ⟨(l.drop k).take (m - k), 0⟩)
theorem Good.bind {α β : Type} {f : RdS → α × RdS} {g : α → RdS → β × RdS} (hf : Good f) (hg : ∀ a, Good (g a)) : Good (fun s => g (f s).1 (f s).2) := by
  refine ⟨fun s hs => ?_, fun l m h => ?_⟩
  · show (g (f s).1 (f s).2).2 = s
    rw [hf.stay s hs]
    exact (hg _).stay s hs
  · replace h : (g (f ⟨l, 0⟩).1 (f ⟨l, 0⟩).2).2.e = 0 := h
    have h1 : (f ⟨l, 0⟩).2.e = 0 := by
      by_cases e : (f ⟨l, 0⟩).2.e = 0
      · exact e
      · rw [(hg _).stay _ e] at h; exact absurd h e
    rcases hf.cut l m h1 with h3 | ⟨k, hk, hkl, e1, e2⟩
    · refine .inl ?_
      show (g (f ⟨l.take m, 0⟩).1 (f ⟨l.take m, 0⟩).2).2.e = 3
      rw [(hg _).stay _ (by rw [h3]; decide)]
      exact h3
    · show (g (f ⟨l.take m, 0⟩).1 (f ⟨l.take m, 0⟩).2).2.e = 3 ∨ ∃ k, k ≤ m ∧ k ≤ l.length ∧ (g (f ⟨l, 0⟩).1 (f ⟨l, 0⟩).2).2 = ⟨l.drop k, 0⟩ ∧ g (f ⟨l.take m, 0⟩).1 (f ⟨l.take m, 0⟩).2 = ((g (f ⟨l, 0⟩).1 (f ⟨l, 0⟩).2).1, ⟨(l.drop k).take (m - k), 0⟩)
      rw [e2]
      rw [e1] at h ⊢
      rcases (hg (f ⟨l, 0⟩).1).cut (l.drop k) (m - k) h with h4 | ⟨k2, hk2, hkl2, e3, e4⟩
      · exact .inl h4
      · refine .inr ⟨k + k2, by omega, by rw [List.length_drop] at hkl2; omega, ?_, ?_⟩
        · rw [e3, List.drop_drop]
        · show g (f ⟨l, 0⟩).1 ⟨(l.drop k).take (m - k), 0⟩ = _
          rw [e4, List.drop_drop, show m - (k + k2) = m - k - k2 by omega]
theorem Good.map {α β : Type} {f : RdS → α × RdS} (hf : Good f) (φ : α → β) : Good (fun s => (φ (f s).1, (f s).2)) :=
  ⟨hf.stay, fun l m h => by
    rcases hf.cut l m h with h3 | ⟨k, hk, hkl, e1, e2⟩
    · exact .inl h3
    · exact .inr ⟨k, hk, hkl, e1, by
        show (φ (f ⟨l.take m, 0⟩).1, (f ⟨l.take m, 0⟩).2) = _
        rw [e2]⟩⟩
theorem Good.pure {α : Type} (a : α) : Good (fun s => (a, s)) :=
  ⟨fun s _ => rfl, fun l m _ => .inr ⟨0, by omega, by omega, rfl, by simp⟩⟩
theorem good_take (n : Nat) : Good (takeR n) := by
  refine ⟨fun s hs => stay_take hs, fun l m h => ?_⟩
  have hn : n ≤ l.length := by
    by_cases e : n ≤ l.length
    · exact e
    · exfalso
      unfold takeR at h
      rw [if_pos rfl, if_neg e] at h
      exact absurd h (by show ¬ (3 : Int) = 0; decide)
  have e1 : takeR n ⟨l, 0⟩ = (l.take n, ⟨l.drop n, 0⟩) := by unfold takeR; rw [if_pos rfl, if_pos hn]
  by_cases hm : n ≤ m
  · refine .inr ⟨n, hm, hn, by rw [e1], ?_⟩
    unfold takeR
    rw [if_pos rfl, if_pos (by show n ≤ (l.take m).length; rw [List.length_take]; omega), if_pos rfl, if_pos hn]
    show ((l.take m).take n, _) = (l.take n, _)
    rw [List.take_take, Nat.min_eq_left hm, List.drop_take]
  · refine .inl ?_
    unfold takeR
    rw [if_pos rfl, if_neg (by show ¬ n ≤ (l.take m).length; rw [List.length_take]; omega)]
theorem good_num : Good numR := (good_take 4).map beV
theorem good_short (p : Int) (n : Int) : Good (fun s => ((if (shortR p s).e = 0 then n else 0), shortR p s)) := by
  refine ⟨fun s hs => stay_short hs, fun l m h => ?_⟩
  have hp : p ≤ (l.length : Int) := by
    by_cases e : p ≤ (l.length : Int)
    · exact e
    · exfalso
      replace h : (shortR p ⟨l, 0⟩).e = 0 := h
      unfold shortR at h
      rw [if_pos (by show (l.length : Int) < p; omega)] at h
      exact absurd h (by show ¬ (3 : Int) = 0; decide)
  have e1 : shortR p ⟨l, 0⟩ = ⟨l, 0⟩ := by unfold shortR; rw [if_neg (by show ¬ (l.length : Int) < p; omega)]
  by_cases hm : p ≤ ((l.take m).length : Int)
  · have e2 : shortR p ⟨l.take m, 0⟩ = ⟨l.take m, 0⟩ := by unfold shortR; rw [if_neg (by show ¬ ((l.take m).length : Int) < p; omega)]
    refine .inr ⟨0, by omega, by omega, e1, ?_⟩
    show ((if (shortR p ⟨l.take m, 0⟩).e = 0 then n else 0), shortR p ⟨l.take m, 0⟩) = ((if (shortR p ⟨l, 0⟩).e = 0 then n else 0), _)
    rw [e1, e2]
    simp
  · refine .inl ?_
    show (shortR p ⟨l.take m, 0⟩).e = 3
    unfold shortR
    rw [if_pos (by show ((l.take m).length : Int) < p; omega)]
    rfl
theorem good_count (each : Int) : Good (countR each) := by
  have h := good_num.bind (fun n => good_short (n * each) n)
  have e : (fun s => ((if (shortR ((numR s).1 * each) (numR s).2).e = 0 then (numR s).1 else 0), shortR ((numR s).1 * each) (numR s).2)) = countR each := by
    funext s
    unfold countR
    split <;> rfl
  rw [← e]
  exact h
theorem good_val : Good valR := good_num.map (fun n => if isIntB n = true then (⟨false, intOfW n⟩ : PV) else ⟨true, refOfW n⟩)
theorem good_nums : ∀ k, Good (numsR k)
  | 0 => Good.pure []
  | k + 1 => (good_nums k).bind (fun l => good_num.map (fun x => l ++ [x]))
theorem good_vals : ∀ k, Good (valsR k)
  | 0 => Good.pure []
  | k + 1 => (good_vals k).bind (fun l => good_val.map (fun x => l ++ [x]))
theorem good_places : Good placesR := (good_count 4).bind (fun n => good_nums n.toNat)
theorem good_waits : ∀ k, Good (waitsR k)
  | 0 => Good.pure []
  | k + 1 => (good_waits k).bind (fun l => good_num.bind (fun a => good_num.map (fun b => l ++ [(a, b)])))
theorem good_kind (kd : Int) : Good (fun s => (kd, if fmtK kd < 1 ∨ 3 < fmtK kd then wrongR 4 s else s)) := by
  by_cases hb : fmtK kd < 1 ∨ 3 < fmtK kd
  · refine ⟨fun s hs => by show (if _ then _ else _) = s; rw [if_pos hb]; exact stay_wrong hs, fun l m h => ?_⟩
    exfalso
    replace h : (if fmtK kd < 1 ∨ 3 < fmtK kd then wrongR 4 ⟨l, 0⟩ else (⟨l, 0⟩ : RdS)).e = 0 := h
    rw [if_pos hb] at h
    exact absurd h (by show ¬ (4 : Int) = 0; decide)
  · have e : (fun s : RdS => (kd, if fmtK kd < 1 ∨ 3 < fmtK kd then wrongR 4 s else s)) = fun s => (kd, s) := by funext s; rw [if_neg hb]
    rw [e]
    exact Good.pure kd
theorem good_body (c k h : Int) : Good (bodyR c k h) := by
  by_cases h3 : fmtK k = 3
  · have g := (good_count 1).bind (fun n => (good_take n.toNat).map (fun bs => (⟨c, fmtK k, h, finK k, [], strI bs⟩ : PT)))
    have e : (fun s => ((⟨c, fmtK k, h, finK k, [], strI (takeR (countR 1 s).1.toNat (countR 1 s).2).1⟩ : PT), (takeR (countR 1 s).1.toNat (countR 1 s).2).2)) = bodyR c k h := by
      funext s
      unfold bodyR
      rw [if_pos h3]
    rw [← e]
    exact g
  · have g := (good_count 4).bind (fun n => (good_vals n.toNat).map (fun F => (⟨c, fmtK k, h, finK k, F, ByteArray.empty⟩ : PT)))
    have e : (fun s => ((⟨c, fmtK k, h, finK k, (valsR (countR 4 s).1.toNat (countR 4 s).2).1, ByteArray.empty⟩ : PT), (valsR (countR 4 s).1.toNat (countR 4 s).2).2)) = bodyR c k h := by
      funext s
      unfold bodyR
      rw [if_neg h3]
    rw [← e]
    exact g
theorem good_thing : Good thingR :=
  good_num.bind (fun c => good_num.bind (fun k0 => (good_kind k0).bind (fun k => good_num.bind (fun h => good_body c k h))))
theorem good_ths : ∀ k, Good (thsR k)
  | 0 => Good.pure []
  | k + 1 => (good_ths k).bind (fun l => good_thing.map (fun x => l ++ [x]))
theorem good_regs (L : List PT) : Good (regsG L) :=
  good_num.bind (fun p => good_num.bind (fun f => good_places.bind (fun re => (good_count 8).bind (fun m => (good_waits m.toNat).bind (fun wa => good_places.bind (fun du => good_num.map (fun la => (⟨L, [], la, ⟨p, f, re, wa, du, ByteArray.empty, ByteArray.empty, 0, 0, []⟩⟩ : PW))))))))
def worldG (s : RdS) : PW × RdS := regsG (thsR (countR 1 s).1.toNat (countR 1 s).2).1 (thsR (countR 1 s).1.toNat (countR 1 s).2).2
theorem good_world : Good worldG := (good_count 1).bind (fun n => (good_ths n.toNat).bind (fun L => good_regs L))
theorem all_world (s : RdS) : allG s = ((worldG s).1, seenR (worldG s).1 (overR (worldG s).2)) := rfl
theorem final_ok (W : PW) (s : RdS) (h : (seenR W (overR s)).e = 0) : s.e = 0 ∧ s.b = [] ∧ checkB W = true := by
  have h0 : s.e = 0 := by
    by_cases e : s.e = 0
    · exact e
    · rw [stay_over e, stay_seen e] at h; exact absurd h e
  have hb : s.b = [] := by
    by_cases e : s.b = []
    · exact e
    · exfalso
      have hp : 0 < s.b.length := by
        cases hq : s.b with
        | nil => exact absurd hq e
        | cons a t => simp
      have ho : overR s = ⟨s.b, 4⟩ := by
        unfold overR wrongR
        rw [if_pos hp, if_pos h0]
      rw [ho, stay_seen (by show ¬ (4 : Int) = 0; decide)] at h
      exact absurd h (by show ¬ (4 : Int) = 0; decide)
  refine ⟨h0, hb, ?_⟩
  have ho : overR s = s := by
    unfold overR
    rw [hb, if_neg (by simp)]
  rw [ho] at h
  unfold seenR at h
  cases hc : checkB W with
  | true => rfl
  | false =>
    exfalso
    rw [if_pos ⟨h0, hc⟩] at h
    unfold wrongR at h
    rw [if_pos h0] at h
    exact absurd h (by show ¬ (5 : Int) = 0; decide)
theorem final_bad (W : PW) (s : RdS) (h : s.e ≠ 0) : (seenR W (overR s)).e = s.e := by rw [stay_over h, stay_seen h]
def bytesG (l : List Int) : PW × RdS := worldG (takeR 3 ⟨l, 0⟩).2
theorem good_bytes : Good (fun s => worldG (takeR 3 s).2) := (good_take 3).bind (fun _ => good_world)
theorem cut_bytes {l : List Int} {m : Nat} (h0 : (bytesG l).2.e = 0) (hb : (bytesG l).2.b = []) (hm : m < l.length) : (bytesG (l.take m)).2.e = 3 := by
  rcases good_bytes.cut l m h0 with h3 | ⟨k, hk, hkl, e1, _⟩
  · exact h3
  · exfalso
    have e2 : (bytesG l).2.b = l.drop k := congrArg RdS.b e1
    rw [hb] at e2
    have := congrArg List.length e2
    rw [List.length_drop] at this
    simp at this
    omega
theorem all_bytes (l : List Int) : allG (takeR 3 ⟨l, 0⟩).2 = ((bytesG l).1, seenR (bytesG l).1 (overR (bytesG l).2)) := rfl
/-- what is cut is none -/
theorem get_cut {l : List Int} {W : PW} (h : getS l = (0, some W)) (hl : l.length ≤ 65536) {m : Nat} (hm : m < l.length) : getS (l.take m) = (3, none) := by
  have hb : ¬ 65536 < l.length := by omega
  have hb2 : ¬ 65536 < (l.take m).length := by rw [List.length_take]; omega
  unfold getS at h ⊢
  rw [if_neg hb, all_bytes] at h
  rw [if_neg hb2, all_bytes]
  have hcut := fun a b => cut_bytes (l := l) (m := m) a b hm
  generalize bytesG (l.take m) = r2 at *
  generalize bytesG l = r at *
  split at h
  · exact absurd (congrArg Prod.snd h) (by intro q; cases q)
  · rename_i hmag
    have hmg : l.take (min l.length 3) = magicL.take (min l.length 3) := Classical.byContradiction hmag
    split at h
    · rename_i he
      obtain ⟨h0, h1, _⟩ := final_ok r.1 r.2 he
      have h3 := hcut h0 h1
      have hmag2 : ¬ (l.take m).take (min (l.take m).length 3) ≠ magicL.take (min (l.take m).length 3) := by
        intro hne
        apply hne
        have e1 : min (l.take m).length 3 = min m 3 := by rw [List.length_take]; omega
        rw [e1, List.take_take, show min (min m 3) m = min m 3 by omega]
        have e2 : l.take (min m 3) = (l.take (min l.length 3)).take (min m 3) := by rw [List.take_take]; congr 1; omega
        rw [e2, hmg, List.take_take]
        congr 1; omega
      rw [if_neg hmag2]
      have hal := final_bad r2.1 r2.2 (by rw [h3]; decide)
      rw [h3] at hal
      rw [if_neg (by show ¬ (seenR r2.1 (overR r2.2)).e = 0; rw [hal]; decide)]
      show ((seenR r2.1 (overR r2.2)).e, none) = _
      rw [hal]
    · exact absurd (congrArg Prod.snd h) (by intro q; cases q)
end Go.Proofs.Ytadhkmplhgcgkaa.World
