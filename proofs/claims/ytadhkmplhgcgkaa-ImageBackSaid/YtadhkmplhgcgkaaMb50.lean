/-
  MorePlain, as one text (a claim has at most 60 files).
-/
import Derived.Test.YtadhkmplhgcgkaaMb30
namespace Go.Proofs.Ytadhkmplhgcgkaa.World
open Go.RowKit Go.Proofs.Ytadhkmplhgcgkaa.Plain
set_option linter.unusedVariables false
/-- what was read well is read the same with more behind it -/
def More {α : Type} (f : RdS → α × RdS) : Prop := ∀ l r, (f ⟨l, 0⟩).2.e = 0 → f ⟨l ++ r, 0⟩ = ((f ⟨l, 0⟩).1, ⟨(f ⟨l, 0⟩).2.b ++ r, 0⟩)
theorem More.bind {α β : Type} {f : RdS → α × RdS} {g : α → RdS → β × RdS} (hf : More f) (hg : ∀ a, More (g a)) (st : ∀ a, Good (g a)) : More (fun s => g (f s).1 (f s).2) := by
  intro l r h
  replace h : (g (f ⟨l, 0⟩).1 (f ⟨l, 0⟩).2).2.e = 0 := h
  have h1 : (f ⟨l, 0⟩).2.e = 0 := by
    by_cases e : (f ⟨l, 0⟩).2.e = 0
    · exact e
    · rw [(st _).stay _ e] at h; exact absurd h e
  have e1 := hf l r h1
  show g (f ⟨l ++ r, 0⟩).1 (f ⟨l ++ r, 0⟩).2 = ((g (f ⟨l, 0⟩).1 (f ⟨l, 0⟩).2).1, ⟨(g (f ⟨l, 0⟩).1 (f ⟨l, 0⟩).2).2.b ++ r, 0⟩)
  rw [e1]
  generalize hs : (f ⟨l, 0⟩).2 = s at *
  obtain ⟨b, e⟩ := s
  replace h1 : e = 0 := h1
  subst h1
  exact hg _ b r h
theorem More.map {α β : Type} {f : RdS → α × RdS} (hf : More f) (φ : α → β) : More (fun s => (φ (f s).1, (f s).2)) := by
  intro l r h
  show (φ (f ⟨l ++ r, 0⟩).1, (f ⟨l ++ r, 0⟩).2) = _
  rw [hf l r h]
theorem More.pure {α : Type} (a : α) : More (fun s => (a, s)) := fun _ _ _ => rfl
theorem more_take (n : Nat) : More (takeR n) := by
  intro l r h
  have hn : n ≤ l.length := by
    by_cases e : n ≤ l.length
    · exact e
    · exfalso
      unfold takeR at h
      rw [if_pos rfl, if_neg e] at h
      exact absurd h (by show ¬ (3 : Int) = 0; decide)
  unfold takeR
  rw [if_pos rfl, if_pos rfl, if_pos (by show n ≤ (l ++ r).length; rw [List.length_append]; omega), if_pos hn]
  show ((l ++ r).take n, (⟨(l ++ r).drop n, 0⟩ : RdS)) = (l.take n, ⟨l.drop n ++ r, 0⟩)
  rw [List.take_append_of_le_length hn, List.drop_append_of_le_length hn]
theorem more_num : More numR := (more_take 4).map beV
theorem more_short (p n : Int) : More (fun s => ((if (shortR p s).e = 0 then n else 0), shortR p s)) := by
  intro l r h
  replace h : (shortR p ⟨l, 0⟩).e = 0 := h
  have hp : p ≤ (l.length : Int) := by
    by_cases e : p ≤ (l.length : Int)
    · exact e
    · exfalso
      unfold shortR at h
      rw [if_pos (by show (l.length : Int) < p; omega)] at h
      exact absurd h (by show ¬ (3 : Int) = 0; decide)
  have e1 : shortR p ⟨l, 0⟩ = ⟨l, 0⟩ := by unfold shortR; rw [if_neg (by show ¬ (l.length : Int) < p; omega)]
  have e2 : shortR p ⟨l ++ r, 0⟩ = ⟨l ++ r, 0⟩ := by unfold shortR; rw [if_neg (by show ¬ ((l ++ r).length : Int) < p; rw [List.length_append]; omega)]
  show ((if (shortR p ⟨l ++ r, 0⟩).e = 0 then n else 0), shortR p ⟨l ++ r, 0⟩) = ((if (shortR p ⟨l, 0⟩).e = 0 then n else 0), ⟨(shortR p ⟨l, 0⟩).b ++ r, 0⟩)
  rw [e1, e2]
theorem more_count (each : Int) : More (countR each) := by
  have h := More.bind (f := numR) (g := fun n s => ((if (shortR (n * each) s).e = 0 then n else 0), shortR (n * each) s)) more_num (fun n => more_short (n * each) n) (fun n => good_short (n * each) n)
  have e : (fun s => ((if (shortR ((numR s).1 * each) (numR s).2).e = 0 then (numR s).1 else 0), shortR ((numR s).1 * each) (numR s).2)) = countR each := by
    funext s
    unfold countR
    split <;> rfl
  rw [← e]
  exact h
theorem more_val : More valR := more_num.map (fun n => if isIntB n = true then (⟨false, intOfW n⟩ : PV) else ⟨true, refOfW n⟩)
theorem more_nums : ∀ k, More (numsR k)
  | 0 => More.pure []
  | k + 1 => More.bind (f := numsR k) (g := fun l s => (l ++ [(numR s).1], (numR s).2)) (more_nums k) (fun l => more_num.map (fun x => l ++ [x])) (fun l => good_num.map (fun x => l ++ [x]))
theorem more_vals : ∀ k, More (valsR k)
  | 0 => More.pure []
  | k + 1 => More.bind (f := valsR k) (g := fun l s => (l ++ [(valR s).1], (valR s).2)) (more_vals k) (fun l => more_val.map (fun x => l ++ [x])) (fun l => good_val.map (fun x => l ++ [x]))
theorem more_places : More placesR := More.bind (f := countR 4) (g := fun n => numsR n.toNat) (more_count 4) (fun n => more_nums n.toNat) (fun n => good_nums n.toNat)
theorem more_waits : ∀ k, More (waitsR k)
  | 0 => More.pure []
  | k + 1 => More.bind (f := waitsR k) (g := fun l s => (l ++ [((numR s).1, (numR (numR s).2).1)], (numR (numR s).2).2)) (more_waits k) (fun l => More.bind (f := numR) (g := fun a s => (l ++ [(a, (numR s).1)], (numR s).2)) more_num (fun a => more_num.map (fun b => l ++ [(a, b)])) (fun a => good_num.map (fun b => l ++ [(a, b)]))) (fun l => good_num.bind (fun a => good_num.map (fun b => l ++ [(a, b)])))
theorem more_kind (kd : Int) : More (fun s => (kd, if fmtK kd < 1 ∨ 3 < fmtK kd then wrongR 4 s else s)) := by
  intro l r h
  replace h : (if fmtK kd < 1 ∨ 3 < fmtK kd then wrongR 4 ⟨l, 0⟩ else (⟨l, 0⟩ : RdS)).e = 0 := h
  have hb : ¬ (fmtK kd < 1 ∨ 3 < fmtK kd) := fun hb => by
    rw [if_pos hb] at h
    exact absurd h (by show ¬ (4 : Int) = 0; decide)
  show (kd, if fmtK kd < 1 ∨ 3 < fmtK kd then wrongR 4 ⟨l ++ r, 0⟩ else (⟨l ++ r, 0⟩ : RdS)) = (kd, ⟨(if fmtK kd < 1 ∨ 3 < fmtK kd then wrongR 4 ⟨l, 0⟩ else (⟨l, 0⟩ : RdS)).b ++ r, 0⟩)
  rw [if_neg hb, if_neg hb]
theorem more_body (c k h : Int) : More (bodyR c k h) := by
  by_cases h3 : fmtK k = 3
  · have g := More.bind (f := countR 1) (g := fun n s => ((⟨c, fmtK k, h, finK k, [], strI (takeR n.toNat s).1⟩ : PT), (takeR n.toNat s).2)) (more_count 1) (fun n => (more_take n.toNat).map (fun bs => (⟨c, fmtK k, h, finK k, [], strI bs⟩ : PT))) (fun n => (good_take n.toNat).map (fun bs => (⟨c, fmtK k, h, finK k, [], strI bs⟩ : PT)))
    have e : (fun s => ((⟨c, fmtK k, h, finK k, [], strI (takeR (countR 1 s).1.toNat (countR 1 s).2).1⟩ : PT), (takeR (countR 1 s).1.toNat (countR 1 s).2).2)) = bodyR c k h := by
      funext s
      unfold bodyR
      rw [if_pos h3]
    rw [← e]
    exact g
  · have g := More.bind (f := countR 4) (g := fun n s => ((⟨c, fmtK k, h, finK k, (valsR n.toNat s).1, ByteArray.empty⟩ : PT), (valsR n.toNat s).2)) (more_count 4) (fun n => (more_vals n.toNat).map (fun F => (⟨c, fmtK k, h, finK k, F, ByteArray.empty⟩ : PT))) (fun n => (good_vals n.toNat).map (fun F => (⟨c, fmtK k, h, finK k, F, ByteArray.empty⟩ : PT)))
    have e : (fun s => ((⟨c, fmtK k, h, finK k, (valsR (countR 4 s).1.toNat (countR 4 s).2).1, ByteArray.empty⟩ : PT), (valsR (countR 4 s).1.toNat (countR 4 s).2).2)) = bodyR c k h := by
      funext s
      unfold bodyR
      rw [if_neg h3]
    rw [← e]
    exact g
theorem more_thing : More thingR :=
  More.bind (f := numR) (g := fun c s => bodyR c (numR s).1 (numR (kindR s)).1 (numR (kindR s)).2) more_num (fun c => More.bind (f := numR) (g := fun k0 s => bodyR c k0 (numR (if fmtK k0 < 1 ∨ 3 < fmtK k0 then wrongR 4 s else s)).1 (numR (if fmtK k0 < 1 ∨ 3 < fmtK k0 then wrongR 4 s else s)).2) more_num (fun k0 => More.bind (f := fun s => (k0, if fmtK k0 < 1 ∨ 3 < fmtK k0 then wrongR 4 s else s)) (g := fun k s => bodyR c k (numR s).1 (numR s).2) (more_kind k0) (fun k => More.bind (f := numR) (g := fun h => bodyR c k h) more_num (fun h => more_body c k h) (fun h => good_body c k h)) (fun k => good_num.bind (fun h => good_body c k h))) (fun k0 => (good_kind k0).bind (fun k => good_num.bind (fun h => good_body c k h)))) (fun c => good_num.bind (fun k0 => (good_kind k0).bind (fun k => good_num.bind (fun h => good_body c k h))))
theorem more_ths : ∀ k, More (thsR k)
  | 0 => More.pure []
  | k + 1 => More.bind (f := thsR k) (g := fun l s => (l ++ [(thingR s).1], (thingR s).2)) (more_ths k) (fun l => more_thing.map (fun x => l ++ [x])) (fun l => good_thing.map (fun x => l ++ [x]))
section
variable (L : List PT)
theorem m5 (p f : Int) (re : List Int) (wa : List (Int × Int)) : More (f5 L p f re wa) := More.bind (f := placesR) (g := fun du s => (mkG L p f re wa du (numR s).1, (numR s).2)) more_places (fun du => more_num.map (fun la => mkG L p f re wa du la)) (fun du => g6 L p f re wa du)
theorem m4 (p f : Int) (re : List Int) (m : Int) : More (f4 L p f re m) := More.bind (f := waitsR m.toNat) (g := fun wa => f5 L p f re wa) (more_waits m.toNat) (fun wa => m5 L p f re wa) (fun wa => g5 L p f re wa)
theorem m3 (p f : Int) (re : List Int) : More (f3 L p f re) := More.bind (f := countR 8) (g := fun m => f4 L p f re m) (more_count 8) (fun m => m4 L p f re m) (fun m => g4 L p f re m)
theorem m2 (p f : Int) : More (f2 L p f) := More.bind (f := placesR) (g := fun re => f3 L p f re) more_places (fun re => m3 L p f re) (fun re => g3' L p f re)
theorem m1 (p : Int) : More (f1 L p) := More.bind (f := numR) (g := fun f => f2 L p f) more_num (fun f => m2 L p f) (fun f => g2 L p f)
theorem more_regs : More (regsG L) := by
  have q : More (fun s => f1 L (numR s).1 (numR s).2) := More.bind (f := numR) (g := fun p => f1 L p) more_num (fun p => m1 L p) (fun p => g1 L p)
  exact q
end
theorem more_world : More worldG := by
  have h1 : ∀ n : Int, More (fun s => regsG (thsR n.toNat s).1 (thsR n.toNat s).2) := fun n => More.bind (f := thsR n.toNat) (g := fun L => regsG L) (more_ths n.toNat) (fun L => more_regs L) (fun L => good_regs L)
  exact More.bind (f := countR 1) (g := fun n s => regsG (thsR n.toNat s).1 (thsR n.toNat s).2) (more_count 1) h1 (fun n => (good_ths n.toNat).bind (fun L => good_regs L))
/-- a byte more is too much -/
theorem get_more {l : List Int} {W : PW} (h : getS l = (0, some W)) (x : Int) (hl : (l ++ [x]).length ≤ 65536) (h3 : 3 ≤ l.length) : getS (l ++ [x]) = (4, none) := by
  have hb : ¬ 65536 < l.length := by rw [List.length_append] at hl; omega
  have hb2 : ¬ 65536 < (l ++ [x]).length := by omega
  unfold getS at h ⊢
  rw [if_neg hb, all_bytes] at h
  rw [if_neg hb2, all_bytes]
  have hmore : More (fun s => worldG (takeR 3 s).2) := More.bind (f := takeR 3) (g := fun _ => worldG) (more_take 3) (fun _ => more_world) (fun _ => good_world)
  have hm := hmore l [x]
  replace hm : (bytesG l).2.e = 0 → bytesG (l ++ [x]) = ((bytesG l).1, ⟨(bytesG l).2.b ++ [x], 0⟩) := hm
  generalize bytesG (l ++ [x]) = r2 at *
  generalize bytesG l = r at *
  split at h
  · exact absurd (congrArg Prod.snd h) (by intro q; cases q)
  · rename_i hmag
    have hmg : l.take (min l.length 3) = magicL.take (min l.length 3) := Classical.byContradiction hmag
    split at h
    · rename_i he
      obtain ⟨h0, h1, _⟩ := final_ok r.1 r.2 he
      have e2 := hm h0
      rw [h1] at e2
      subst e2
      have hmag2 : ¬ (l ++ [x]).take (min (l ++ [x]).length 3) ≠ magicL.take (min (l ++ [x]).length 3) := by
        intro hne
        apply hne
        have e1 : min (l ++ [x]).length 3 = 3 := by rw [List.length_append]; omega
        have e3 : min l.length 3 = 3 := by omega
        rw [e3] at hmg
        rw [e1, List.take_append_of_le_length h3, hmg]
      rw [if_neg hmag2]
      have ho : (seenR r.1 (overR ⟨[] ++ [x], 0⟩)).e = 4 := by
        have e : overR ⟨[] ++ [x], 0⟩ = ⟨[x], 4⟩ := rfl
        rw [e, stay_seen (by show ¬ (4 : Int) = 0; decide)]
      rw [if_neg (by show ¬ (seenR r.1 (overR ⟨[] ++ [x], 0⟩)).e = 0; rw [ho]; decide)]
      show ((seenR r.1 (overR ⟨[] ++ [x], 0⟩)).e, none) = _
      rw [ho]
    · exact absurd (congrArg Prod.snd h) (by intro q; cases q)
end Go.Proofs.Ytadhkmplhgcgkaa.World
