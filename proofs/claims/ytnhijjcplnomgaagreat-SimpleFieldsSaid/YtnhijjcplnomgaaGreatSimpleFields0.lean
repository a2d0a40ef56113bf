/-
  SimpleFields, plain.
-/
import Derived.Test.YtnhijjcplnomgaaGreatSimpleDo4
import Derived.Test.YtnhijjcplnomgaaGreatMethK
namespace Go.Proofs.YtnhijjcplnomgaaGreat.World
open Go.RowKit Go.Proofs.YtnhijjcplnomgaaGreat.Plain
set_option linter.unusedVariables false
instance : DecidableEq PV := fun ⟨a, b⟩ ⟨c, d⟩ => if h : a = c ∧ b = d then isTrue (by obtain ⟨rfl, rfl⟩ := h; rfl) else isFalse (fun e => h (by injection e with e1 e2; exact ⟨e1, e2⟩))
def whoV (c : Nat) : PV := if c = 0 then objV 23 else if c = 1 then num 5 else objV 22
def fieldsW (c k : Nat) : PW := ((firstW.add 7 1 (List.replicate k (num 0)) ByteArray.empty).meth 0 0 0).start 25 0 (whoV c) 5
theorem fieldsW_check : ∀ c k : Nat, c < 3 → k < 20 → checkB (fieldsW c k) = true := by
  have h : ∀ c : Fin 3, ∀ k : Fin 20, checkB (fieldsW c k) = true := by decide +kernel
  exact fun c k hc hk => h ⟨c, hc⟩ ⟨k, hk⟩
theorem fieldsW_first (c k i : Nat) (hi : i < 23) : tAt (fieldsW c k).L i = firstT i := by
  have e : firstW.L.length = 23 := rfl
  unfold fieldsW PW.start PW.meth
  rw [tAt_add _ _ _ _ _ _ (by simp only [len_add]; omega), tAt_add _ _ _ _ _ _ (by simp only [len_add]; omega), tAt_add _ _ _ _ _ _ (by simp only [len_add]; omega), tAt_add _ _ _ _ _ _ (by simp only [len_add]; omega), tAt_add _ _ _ _ _ _ (by omega)]
  exact first_at i hi
structure SF (S : MS) (c k : Nat) (f : Nat → PV) (sp : Int) : Prop where
  fr : MS.Fr S 26
  ph : S.phase ≠ 1
  me : S.get 26 4 = whoV c
  meth : S.get 26 3 = objV 25
  blk : S.get 26 5 = objV 0
  sp : S.sp 26 = sp
  h0 : S.has 0 = true
  f23 : S.fmt 23 = 1
  s23 : S.size 23 = k
  g23 : ∀ j : Nat, j < k → S.get 23 j = f j
  f22 : S.fmt 22 = 1
  s22 : S.size 22 = 1
  g22 : S.get 22 0 = num 0
theorem sf0 (c k : Nat) (hc : c < 3) (hk : k < 20) : SF (newS (fieldsW c k) 5) c k (fun _ => num 0) 0 := by
  have s := std_new (fieldsW_check c k hc hk) (fieldsW_first c k) 5
  have h : ∀ c : Fin 3, ∀ k : Fin 20, (newS (fieldsW c k) 5).isFrame 26 = true ∧ (newS (fieldsW c k) 5).get 26 4 = whoV c ∧ (newS (fieldsW c k) 5).get 26 3 = objV 25 ∧ (newS (fieldsW c k) 5).get 26 5 = objV 0 ∧ (newS (fieldsW c k) 5).sp 26 = 0 ∧ (newS (fieldsW c k) 5).fmt 23 = 1 ∧ (newS (fieldsW c k) 5).size 23 = (k.1 : Int) ∧ (∀ j : Fin 20, j.1 < k.1 → (newS (fieldsW c k) 5).get 23 j = num 0) ∧ (newS (fieldsW c k) 5).fmt 22 = 1 ∧ (newS (fieldsW c k) 5).size 22 = 1 ∧ (newS (fieldsW c k) 5).get 22 0 = num 0 := by decide +kernel
  obtain ⟨a1, a2, a3, a4, a5, a6, a7, a8, a9, a10, a11⟩ := h ⟨c, hc⟩ ⟨k, hk⟩
  exact ⟨⟨s.wf, a1, by rw [a3]; decide, by rw [a4]; decide⟩, by rw [s.ph]; decide, a2, a3, a4, a5, s.has0, a6, a7, fun j hj => a8 ⟨j, by omega⟩ hj, a9, a10, a11⟩
theorem SF.other {S S' : MS} {c k : Nat} {f : Nat → PV} {sp sp' : Int} (h : SF S c k f sp) (fr : MS.Fr S' 26) (m : MS.Sim S S') (hsp : S'.sp 26 = sp') (g : ∀ i j, (i ≠ 26 ∨ (j ≠ 2 ∧ j < 6)) → S'.get i j = S.get i j) : SF S' c k f sp' :=
  ⟨fr, by rw [m.phase]; exact h.ph, by rw [g _ _ (.inr (by omega))]; exact h.me, by rw [g _ _ (.inr (by omega))]; exact h.meth, by rw [g _ _ (.inr (by omega))]; exact h.blk, hsp, by rw [m.has]; exact h.h0, by rw [m.fmt]; exact h.f23, by rw [m.size]; exact h.s23, fun j hj => by rw [g _ _ (.inl (by omega))]; exact h.g23 j hj, by rw [m.fmt]; exact h.f22, by rw [m.size]; exact h.s22, by rw [g _ _ (.inl (by omega))]; exact h.g22⟩
theorem SF.push {S : MS} {c k : Nat} {f : Nat → PV} (h : SF S c k f 0) {v : PV} (hv : S.may v = true) : S.pushOK 26 v = true ∧ SF (S.push 26 v) c k f 1 ∧ (S.push 26 v).get 26 6 = v ∧ MS.Sim S (S.push 26 v) := by
  obtain ⟨ok, fr, m, g⟩ := h.fr.push (by rw [h.sp]; omega) hv
  rw [h.sp] at g
  refine ⟨ok, h.other fr m ?_ (fun i j hij => ?_), ?_, m⟩
  · show ((S.push 26 v).get 26 2).n = 1
    rw [g, if_pos ⟨rfl, rfl⟩]; rfl
  · rw [g]
    rcases hij with hi | ⟨h2, h6⟩
    · rw [if_neg (fun q => hi q.1), if_neg (fun q => hi q.1)]
    · rw [if_neg (fun q => h2 q.2), if_neg (fun q => by omega)]
  · rw [g, if_neg (by omega), if_pos ⟨rfl, by omega⟩]
theorem SF.pop {S : MS} {c k : Nat} {f : Nat → PV} (h : SF S c k f 1) : S.popOK 26 = true ∧ SF (S.pop 26) c k f 0 ∧ MS.Sim S (S.pop 26) := by
  obtain ⟨ok, fr, m, g⟩ := h.fr.pop h.h0 (by rw [h.sp]; omega)
  rw [h.sp] at g
  refine ⟨ok, h.other fr m ?_ (fun i j hij => ?_), m⟩
  · show ((S.pop 26).get 26 2).n = 0
    rw [g, if_pos ⟨rfl, rfl⟩]; rfl
  · rw [g]
    rcases hij with hi | ⟨h2, h6⟩
    · rw [if_neg (fun q => hi q.1), if_neg (fun q => hi q.1)]
    · rw [if_neg (fun q => h2 q.2), if_neg (fun q => by omega)]
theorem SF.hasF {S : MS} {c k : Nat} {f : Nat → PV} {sp : Int} (h : SF S c k f sp) (hc : c < 3) (i : Nat) : S.hasF (S.get 26 4) i = (decide (c = 0 ∧ i < k) || decide (c = 2 ∧ i = 0)) := by
  rw [h.me]
  have h23 := MS.fmt_has (S := S) (k := 23) (by rw [h.f23]; decide)
  have h22 := MS.fmt_has (S := S) (k := 22) (by rw [h.f22]; decide)
  unfold MS.hasF whoV
  rcases (show c = 0 ∨ c = 1 ∨ c = 2 by omega) with rfl | rfl | rfl
  · simp [objV, h23, h.f23, h.s23]
  · simp [num]
  · simp [objV, h22, h.f22, h.s22]
    omega
theorem notclass {S : MS} {i : Int} (hf : S.fmt i = 1) (hg : 5 ≤ S.size i → S.get i 4 = num 0) : S.isClass i = false := by
  have hh := MS.fmt_has (S := S) (k := i) (by rw [hf]; decide)
  by_cases h5 : 5 ≤ S.size i
  · have f4 : S.isField i 4 = true := by
      unfold MS.isField
      rw [hh, hf, decide_eq_true (show 0 ≤ (4 : Int) ∧ 4 < S.size i by omega)]; rfl
    have e : S.field i 4 = num 0 := by
      have q := hg h5
      unfold MS.get at q
      rw [if_pos f4] at q; exact q
    unfold MS.isClass
    rw [e]
    have : MS.fmtOK (num 0) = false := by decide
    rw [this]; simp
  · unfold MS.isClass
    rw [decide_eq_false h5]; simp
theorem SF.set {S : MS} {c k : Nat} (h : SF S c k (fun _ => num 0) 0) {i : Nat} (hi : i < k) {v : PV} (hv : S.may v = true) : S.setOK 23 i v = true ∧ SF (S.set 23 i v) c k (fun j => if j = i then v else num 0) 0 ∧ MS.Sim S (S.set 23 i v) := by
  have hh := MS.fmt_has (S := S) (k := 23) (by rw [h.f23]; decide)
  have hf : S.isField 23 i = true := by
    unfold MS.isField
    rw [hh, h.f23, h.s23, decide_eq_true (show 0 ≤ (i : Int) ∧ (i : Int) < (k : Int) by omega)]; rfl
  have nc : S.isClass 23 = false := notclass h.f23 (fun h5 => by
    rw [h.s23] at h5
    have := h.g23 4 (by omega)
    exact this)
  have ok := MS.setOK_of hf hv (.inr nc)
  have e := MS.set_put ok
  have g := MS.get_put (v := v) h.fr.wf hf
  have m := MS.sim_put (v := v) h.fr.wf hf
  refine ⟨ok, ?_, by rw [e]; exact m⟩
  rw [e]
  have go : ∀ a b, a ≠ 23 → (S.put 23 i v).get a b = S.get a b := fun a b ha => by rw [g, if_neg (fun q => ha q.1)]
  have hm : (S.get 26 3).n ≠ 23 := by rw [h.meth]; decide
  have hb : (S.get 26 5).n ≠ 23 := by rw [h.blk]; decide
  refine ⟨⟨MS.put_wf h.fr.wf hf hv, ?_, by rw [go _ _ (by omega)]; exact h.fr.me, by rw [go _ _ (by omega)]; exact h.fr.bl⟩, by rw [m.phase]; exact h.ph, by rw [go _ _ (by omega)]; exact h.me, by rw [go _ _ (by omega)]; exact h.meth, by rw [go _ _ (by omega)]; exact h.blk, ?_, by rw [m.has]; exact h.h0, by rw [m.fmt]; exact h.f23, by rw [m.size]; exact h.s23, fun j hj => ?_, by rw [m.fmt]; exact h.f22, by rw [m.size]; exact h.s22, by rw [go _ _ (by omega)]; exact h.g22⟩
  · exact MS.isFrame_put h.fr.wf hf h.fr.is (.inl hm) (.inl hb) (by first | exact .inl (by omega) | omega)
  · show ((S.put 23 i v).get 26 2).n = 0
    rw [go _ _ (by omega)]; exact h.sp
  · rw [g]
    by_cases hji : j = i
    · subst hji; rw [if_pos ⟨rfl, rfl⟩, if_pos rfl]
    · rw [if_neg (by omega), if_neg hji]; exact h.g23 j hj
theorem SF.has3 {S : MS} {c k : Nat} {f : Nat → PV} {sp : Int} (h : SF S c k f sp) (hc : c < 3) (i : Nat) : S.hasF (whoV c) i = (decide (c = 0 ∧ i < k) || decide (c = 2 ∧ i = 0)) := by
  have q := h.hasF hc i
  rw [h.me] at q; exact q
structure SFR (S : MS) (c k i : Nat) (v : PV) : Prop where
  a1 : S.pushOK 26 v = true
  a2 : S.isFrame 26 = true
  b1 : (S.push 26 v).phase ≠ 1
  b2 : (S.push 26 v).isFrame 26 = true
  b3 : (S.push 26 v).popOK 26 = true
  b4 : (S.push 26 v).sfOK 26 i = decide (c = 0 ∧ i < k)
  c1 : ((S.push 26 v).sf 26 i).phase ≠ 1
  c2 : ((S.push 26 v).sf 26 i).isFrame 26 = true
  c3 : ((S.push 26 v).sf 26 i).pfOK 26 i = (decide (c = 0 ∧ i < k) || decide (c = 2 ∧ i = 0))
  d1 : (((S.push 26 v).sf 26 i).pf 26 i).get 22 0 = num 0
  d2 : c = 0 ∧ i < k → (∀ j : Nat, j < k → (((S.push 26 v).sf 26 i).pf 26 i).get 23 j = if j = i then v else num 0) ∧ (((S.push 26 v).sf 26 i).pf 26 i).get 26 6 = v
theorem sf_all {S : MS} {c k : Nat} (h : SF S c k (fun _ => num 0) 0) (hc : c < 3) (i : Nat) {x : Int} (hx : -128 ≤ x ∧ x ≤ 127) : SFR S c k i (num x) := by
  have hv : ∀ T : MS, T.may (num x) = true := fun T => MS.fits_small (n := x) (by omega)
  obtain ⟨a1, h1, t1, _⟩ := h.push (hv _)
  obtain ⟨b3, h2, _⟩ := h1.pop
  have e0 : (S.push 26 (num x)).get 26 4 = whoV c := h1.me
  have e6 : (S.push 26 (num x)).get 26 (6 + (S.push 26 (num x)).sp 26 - 1) = num x := by rw [h1.sp]; exact t1
  by_cases hin : c = 0 ∧ i < k
  · obtain ⟨rfl, hik⟩ := hin
    obtain ⟨s1, h3, _⟩ := h2.set hik (hv _)
    have w0 : (decide ((0 : Nat) = 0 ∧ i < k)) = true := decide_eq_true ⟨rfl, hik⟩
    have hh : ((S.push 26 (num x)).pop 26).hasF (whoV 0) i = true := by rw [h2.has3 hc i, w0]; rfl
    have hn : decide (0 ≤ (whoV 0).n ∧ (whoV 0).n < 23) = false := by decide
    have eo : (S.push 26 (num x)).sfOK 26 i = true := by
      unfold MS.sfOK
      rw [e0, e6, hh, hn, show (whoV 0).n = 23 from rfl, s1]; rfl
    have es : (S.push 26 (num x)).sf 26 i = ((S.push 26 (num x)).pop 26).set 23 i (num x) := by
      unfold MS.sf
      rw [e0, e6, hh, hn, show (whoV 0).n = 23 from rfl]; rfl
    rw [← es] at h3
    have gi : ((S.push 26 (num x)).sf 26 i).get 23 i = num x := by
      have := h3.g23 i hik
      rw [if_pos rfl] at this; exact this
    have hh3 : ((S.push 26 (num x)).sf 26 i).hasF (whoV 0) i = true := by rw [h3.has3 hc i, w0]; rfl
    obtain ⟨p1, h4, t4, _⟩ := h3.push (hv _)
    have ep : ((S.push 26 (num x)).sf 26 i).pfOK 26 i = true := by
      unfold MS.pfOK
      rw [h3.me, hh3, show (whoV 0).n = 23 from rfl, gi, p1]; rfl
    have eq : ((S.push 26 (num x)).sf 26 i).pf 26 i = ((S.push 26 (num x)).sf 26 i).push 26 (num x) := by
      unfold MS.pf
      rw [h3.me, hh3, if_pos rfl, show (whoV 0).n = 23 from rfl, gi]
    refine ⟨a1, h.fr.is, h1.ph, h1.fr.is, b3, by rw [eo, w0], h3.ph, h3.fr.is, by rw [ep, w0]; rfl, by rw [eq]; exact h4.g22, fun _ => ⟨fun j hj => by rw [eq]; exact h4.g23 j hj, by rw [eq]; exact t4⟩⟩
  · have w0 : (decide (c = 0 ∧ i < k)) = false := decide_eq_false hin
    have hb : (((S.push 26 (num x)).pop 26).hasF (whoV c) i && !decide (0 ≤ (whoV c).n ∧ (whoV c).n < 23)) = false := by
      rw [h2.has3 hc i, w0, Bool.false_or]
      by_cases h2' : c = 2 ∧ i = 0
      · obtain ⟨rfl, rfl⟩ := h2'; rfl
      · rw [decide_eq_false h2']; rfl
    have eo : (S.push 26 (num x)).sfOK 26 i = false := by
      unfold MS.sfOK
      rw [e0, ← Bool.and_assoc, hb]; rfl
    have es : (S.push 26 (num x)).sf 26 i = (S.push 26 (num x)).pop 26 := by
      unfold MS.sf
      rw [e0, hb]; rfl
    rw [← es] at h2
    have hh3 : ((S.push 26 (num x)).sf 26 i).hasF (whoV c) i = decide (c = 2 ∧ i = 0) := by rw [h2.has3 hc i, w0, Bool.false_or]
    by_cases h2' : c = 2 ∧ i = 0
    · obtain ⟨rfl, rfl⟩ := h2'
      have w2 : (decide ((2 : Nat) = 2 ∧ (0 : Nat) = 0)) = true := rfl
      rw [w2] at hh3
      have gi : ((S.push 26 (num x)).sf 26 (0 : Nat)).get 22 (0 : Nat) = num 0 := h2.g22
      obtain ⟨p1, h4, t4, _⟩ := h2.push (v := num 0) (MS.fits_small (n := 0) (by omega))
      have ep : ((S.push 26 (num x)).sf 26 (0 : Nat)).pfOK 26 (0 : Nat) = true := by
        unfold MS.pfOK
        rw [h2.me, hh3, show (whoV 2).n = 22 from rfl, gi, p1]; rfl
      have eq : ((S.push 26 (num x)).sf 26 (0 : Nat)).pf 26 (0 : Nat) = ((S.push 26 (num x)).sf 26 (0 : Nat)).push 26 (num 0) := by
        unfold MS.pf
        rw [h2.me, hh3, if_pos rfl, show (whoV 2).n = 22 from rfl, gi]
      exact ⟨a1, h.fr.is, h1.ph, h1.fr.is, b3, by rw [eo, w0], h2.ph, h2.fr.is, by rw [ep, w0]; rfl, by rw [eq]; exact h4.g22, fun hin' => absurd hin' hin⟩
    · rw [decide_eq_false h2'] at hh3
      have ep : ((S.push 26 (num x)).sf 26 i).pfOK 26 i = false := by
        unfold MS.pfOK
        rw [h2.me, hh3]; rfl
      have eq : ((S.push 26 (num x)).sf 26 i).pf 26 i = (S.push 26 (num x)).sf 26 i := by
        unfold MS.pf
        rw [h2.me, hh3, if_neg (by decide)]
      exact ⟨a1, h.fr.is, h1.ph, h1.fr.is, b3, by rw [eo, w0], h2.ph, h2.fr.is, by rw [ep, w0, decide_eq_false h2']; rfl, by rw [eq]; exact h2.g22, fun hin' => absurd hin' hin⟩
end Go.Proofs.YtnhijjcplnomgaaGreat.World
