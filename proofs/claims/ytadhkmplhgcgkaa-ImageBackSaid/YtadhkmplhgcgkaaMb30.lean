/-
  InvPlain2, FirstPlain, as one text (a claim has at most 60 files).
-/
import Derived.Test.YtadhkmplhgcgkaaMb29
import Derived.Test.YtadhkmplhgcgkaaMb09
namespace Go.Proofs.Ytadhkmplhgcgkaa.World
open Go.RowKit Go.Proofs.Ytadhkmplhgcgkaa.Plain
set_option linter.unusedVariables false
theorem inv_ths : ∀ k, Inv (thsR k) (fun l c => l.length = k ∧ c = l.flatMap encT)
  | 0 => Inv.pure [] ⟨rfl, rfl⟩
  | k + 1 => Inv.bind (inv_ths k) (fun l => inv_thing.map (R := fun l' c => ∃ x, l' = l ++ [x] ∧ c = encT x) (fun x => l ++ [x]) (fun x c h => ⟨x, rfl, h⟩)) (fun l => good_thing.map (fun x => l ++ [x])) (fun l c b c' h h' => by
      obtain ⟨h1, h2⟩ := h
      obtain ⟨x, rfl, rfl⟩ := h'
      exact ⟨by rw [List.length_append, h1]; rfl, by rw [List.flatMap_append, h2]; simp⟩)
def mkG (L : List PT) (p f : Int) (re : List Int) (wa : List (Int × Int)) (du : List Int) (la : Int) : PW := ⟨L, [], la, ⟨p, f, re, wa, du, ByteArray.empty, ByteArray.empty, 0, 0, []⟩⟩
def regsB4 (W : PW) : List Int := b4 W.R.proc ++ (b4 W.R.frame ++ (encL W.R.ready ++ (b4 W.R.wait.length ++ (W.R.wait.flatMap encWt ++ (encL W.R.due ++ b4 W.last)))))
section
variable (L : List PT)
theorem g6 (p f : Int) (re : List Int) (wa : List (Int × Int)) (du : List Int) : Good (fun s => (mkG L p f re wa du (numR s).1, (numR s).2)) := good_num.map (fun la => mkG L p f re wa du la)
theorem i6 (p f : Int) (re : List Int) (wa : List (Int × Int)) (du : List Int) : Inv (fun s => (mkG L p f re wa du (numR s).1, (numR s).2)) (fun W c => ∃ la, W = mkG L p f re wa du la ∧ c = b4 la) := inv_num.map (fun la => mkG L p f re wa du la) (fun la c h => ⟨la, rfl, h.1⟩)
def f5 (p f : Int) (re : List Int) (wa : List (Int × Int)) (s : RdS) : PW × RdS := (mkG L p f re wa (placesR s).1 (numR (placesR s).2).1, (numR (placesR s).2).2)
theorem g5 (p f : Int) (re : List Int) (wa : List (Int × Int)) : Good (f5 L p f re wa) := good_places.bind (fun du => g6 L p f re wa du)
theorem i5 (p f : Int) (re : List Int) (wa : List (Int × Int)) : Inv (f5 L p f re wa) (fun W c => ∃ du la, W = mkG L p f re wa du la ∧ c = encL du ++ b4 la) :=
  Inv.bind inv_places (fun du => i6 L p f re wa du) (fun du => g6 L p f re wa du) (fun du c W c' h h' => by
    obtain ⟨la, rfl, rfl⟩ := h'
    exact ⟨du, la, rfl, by rw [h]⟩)
def f4 (p f : Int) (re : List Int) (m : Int) (s : RdS) : PW × RdS := f5 L p f re (waitsR m.toNat s).1 (waitsR m.toNat s).2
theorem g4 (p f : Int) (re : List Int) (m : Int) : Good (f4 L p f re m) := (good_waits m.toNat).bind (fun wa => g5 L p f re wa)
theorem i4 (p f : Int) (re : List Int) (m : Int) : Inv (f4 L p f re m) (fun W c => ∃ wa du la, W = mkG L p f re wa du la ∧ wa.length = m.toNat ∧ c = wa.flatMap encWt ++ (encL du ++ b4 la)) :=
  Inv.bind (inv_waits m.toNat) (fun wa => i5 L p f re wa) (fun wa => g5 L p f re wa) (fun wa c W c' h h' => by
    obtain ⟨du, la, rfl, rfl⟩ := h'
    exact ⟨wa, du, la, rfl, h.1, by rw [h.2]⟩)
def f3 (p f : Int) (re : List Int) (s : RdS) : PW × RdS := f4 L p f re (countR 8 s).1 (countR 8 s).2
theorem g3' (p f : Int) (re : List Int) : Good (f3 L p f re) := (good_count 8).bind (fun m => g4 L p f re m)
theorem i3 (p f : Int) (re : List Int) : Inv (f3 L p f re) (fun W c => ∃ wa du la, W = mkG L p f re wa du la ∧ c = b4 wa.length ++ (wa.flatMap encWt ++ (encL du ++ b4 la))) :=
  Inv.bind (inv_count 8) (fun m => i4 L p f re m) (fun m => g4 L p f re m) (fun m c W c' h h' => by
    obtain ⟨rfl, m0, m1⟩ := h
    obtain ⟨wa, du, la, rfl, hl, rfl⟩ := h'
    refine ⟨wa, du, la, rfl, ?_⟩
    rw [hl, Int.toNat_of_nonneg m0])
def f2 (p f : Int) (s : RdS) : PW × RdS := f3 L p f (placesR s).1 (placesR s).2
theorem g2 (p f : Int) : Good (f2 L p f) := good_places.bind (fun re => g3' L p f re)
theorem i2 (p f : Int) : Inv (f2 L p f) (fun W c => ∃ re wa du la, W = mkG L p f re wa du la ∧ c = encL re ++ (b4 wa.length ++ (wa.flatMap encWt ++ (encL du ++ b4 la)))) :=
  Inv.bind inv_places (fun re => i3 L p f re) (fun re => g3' L p f re) (fun re c W c' h h' => by
    obtain ⟨wa, du, la, rfl, rfl⟩ := h'
    exact ⟨re, wa, du, la, rfl, by rw [h]⟩)
def f1 (p : Int) (s : RdS) : PW × RdS := f2 L p (numR s).1 (numR s).2
theorem g1 (p : Int) : Good (f1 L p) := good_num.bind (fun f => g2 L p f)
theorem i1 (p : Int) : Inv (f1 L p) (fun W c => ∃ f re wa du la, W = mkG L p f re wa du la ∧ c = b4 f ++ (encL re ++ (b4 wa.length ++ (wa.flatMap encWt ++ (encL du ++ b4 la))))) :=
  Inv.bind inv_num (fun f => i2 L p f) (fun f => g2 L p f) (fun f c W c' h h' => by
    obtain ⟨re, wa, du, la, rfl, rfl⟩ := h'
    exact ⟨f, re, wa, du, la, rfl, by rw [h.1]⟩)
theorem inv_regs : Inv (regsG L) (fun W c => W.L = L ∧ W = bareW W ∧ c = regsB4 W) := by
  have q : Inv (fun s => f1 L (numR s).1 (numR s).2) (fun W c => W.L = L ∧ W = bareW W ∧ c = regsB4 W) :=
    Inv.bind inv_num (fun p => i1 L p) (fun p => g1 L p) (fun p c W c' h h' => by
      obtain ⟨f, re, wa, du, la, rfl, rfl⟩ := h'
      exact ⟨rfl, rfl, by rw [h.1]; rfl⟩)
  exact q
end
theorem inv_world : Inv worldG (fun W c => W = bareW W ∧ c = b4 W.L.length ++ (W.L.flatMap encT ++ regsB4 W)) := by
  have h1 : ∀ n : Int, Inv (fun s => regsG (thsR n.toNat s).1 (thsR n.toNat s).2) (fun W c => W = bareW W ∧ W.L.length = n.toNat ∧ c = W.L.flatMap encT ++ regsB4 W) := fun n =>
    Inv.bind (inv_ths n.toNat) (fun L => inv_regs L) (fun L => good_regs L) (fun L c W c' h h' => by
      obtain ⟨rfl, e, rfl⟩ := h'
      exact ⟨e, h.1, by rw [h.2]⟩)
  exact Inv.bind (f := countR 1) (g := fun n s => regsG (thsR n.toNat s).1 (thsR n.toNat s).2) (inv_count 1) h1 (fun n => (good_ths n.toNat).bind (fun L => good_regs L)) (fun n c W c' h h' => by
    obtain ⟨rfl, n0, n1⟩ := h
    obtain ⟨e, hl, rfl⟩ := h'
    refine ⟨e, ?_⟩
    rw [hl, Int.toNat_of_nonneg n0])
theorem encW_form (W : PW) : encW W = [67, 81, 49] ++ (b4 W.L.length ++ (W.L.flatMap encT ++ regsB4 W)) := by
  unfold encW regsB4
  simp only [List.append_assoc]
/-- what is got is put byte for byte -/
theorem put_get {b : List Int} {W : PW} (hk : okB b) (h : getS b = (0, some W)) : checkB W = true ∧ putS W = (0, b) ∧ W = bareW W := by
  unfold getS at h
  by_cases hb : 65536 < b.length
  · rw [if_pos hb] at h
    exact absurd (congrArg Prod.snd h) (by intro q; cases q)
  · rw [if_neg hb, all_bytes] at h
    split at h
    · exact absurd (congrArg Prod.snd h) (by intro q; cases q)
    · rename_i hmag
      have hmg : b.take (min b.length 3) = magicL.take (min b.length 3) := Classical.byContradiction hmag
      split at h
      · rename_i he
        obtain ⟨h0, h1, h2⟩ := final_ok (bytesG b).1 (bytesG b).2 he
        have eW : (bytesG b).1 = W := by
          have := congrArg Prod.snd h
          injection this
        have hall : Inv (fun s => worldG (takeR 3 s).2) (fun W c => W = bareW W ∧ ∃ m, m.length = 3 ∧ c = m ++ (b4 W.L.length ++ (W.L.flatMap encT ++ regsB4 W))) :=
          Inv.bind (f := takeR 3) (g := fun _ => worldG) (inv_take 3) (fun _ => inv_world) (fun _ => good_world) (fun m c W c' h h' => by
            obtain ⟨rfl, h3, _⟩ := h
            obtain ⟨e, rfl⟩ := h'
            exact ⟨e, c, h3, rfl⟩)
        obtain ⟨c, k, hc, e1, hkl, e, m, hm3, ec⟩ := hall b hk h0
        replace e1 : (bytesG b).2 = ⟨b.drop k, 0⟩ := e1
        replace e : (bytesG b).1 = bareW (bytesG b).1 := e
        replace ec : c = m ++ (b4 (bytesG b).1.L.length ++ ((bytesG b).1.L.flatMap encT ++ regsB4 (bytesG b).1)) := ec
        rw [e1] at h1
        replace h1 : b.drop k = [] := h1
        have hkb : b.length ≤ k := by
          have := congrArg List.length h1
          rw [List.length_drop] at this
          simp at this
          omega
        have hcb : c = b := by rw [hc, List.take_of_length_le hkb]
        rw [eW] at e ec h2
        rw [hcb] at ec
        have h3b : 3 ≤ b.length := by rw [ec, List.length_append]; omega
        have hm : m = [67, 81, 49] := by
          have q := hmg
          rw [show min b.length 3 = 3 by omega] at q
          rw [ec, show (3 : Nat) = m.length from hm3.symm, List.take_left] at q
          rw [q, hm3]; rfl
        have eb : encW W = b := by rw [encW_form, ec, hm]
        have hd : W.dead.contains true = false := by rw [e]; rfl
        refine ⟨h2, ?_, e⟩
        unfold putS
        rw [if_neg (by rw [h2, hd]; decide), eb, if_neg hb]
      · exact absurd (congrArg Prod.snd h) (by intro q; cases q)
end Go.Proofs.Ytadhkmplhgcgkaa.World
namespace Go.Proofs.Ytadhkmplhgcgkaa.World
open Go.RowKit Go.Proofs.Ytadhkmplhgcgkaa.Plain
set_option linter.unusedVariables false

def num (n : Int) : PV := ⟨false, n⟩
def objV (n : Int) : PV := ⟨true, n⟩
def sizes16 : List Int := [0, 0, 0, 0, 0, 0, 0, 5, 0, 22, 4, 2, 1, 0, 2, 2]
def fmts16 : List Int := [1, 1, 1, 1, 1, 3, 3, 1, 1, 1, 1, 1, 1, 2, 1, 1]
def txtLost : ByteArray := ⟨#[108, 111, 115, 116]⟩
def txtBool : ByteArray := ⟨#[98, 111, 111, 108]⟩
def txtBack : ByteArray := ⟨#[98, 97, 99, 107]⟩
def names3 : List ByteArray := [txtLost, txtBool, txtBack]
def firstT (i : Nat) : PT :=
  if i < 3 then ⟨3 + i, 1, i + 1, false, [], ByteArray.empty⟩
  else if i < 19 then ⟨10, 1, i + 1, false, [objV 0, objV 0, objV 0, num (sizes16.getD (i - 3) 0), num (fmts16.getD (i - 3) 0)], ByteArray.empty⟩
  else if i < 22 then ⟨9, 3, i + 1, false, [], names3.getD (i - 19) ByteArray.empty⟩
  else ⟨15, 1, i + 1, false, [num 0], ByteArray.empty⟩
def firstL (n : Nat) : List PT := (List.range n).map firstT
def regs0 : PR := ⟨0, 0, [], [], [], ByteArray.empty, ByteArray.empty, 0, 0, []⟩
def firstW : PW := ⟨firstL 23, [], 23, regs0⟩
theorem firstL_succ (n : Nat) : firstL (n + 1) = firstL n ++ [firstT n] := by unfold firstL; rw [List.range_succ, List.map_append]; rfl
theorem firstL_len (n : Nat) : (firstL n).length = n := by unfold firstL; simp
theorem first_check : checkB firstW = true := by decide +kernel

/-! ### a thing more -/
def PW.add (W : PW) (c f : Int) (F : List PV) (B : ByteArray) : PW := { W with L := W.L ++ [⟨c, f, W.last + 1, false, F, B⟩], last := W.last + 1 }
theorem live_nil {W : PW} (hd : W.dead = []) (i : Int) : liveB W i = decide (0 ≤ i ∧ i < W.L.length) := by
  unfold liveB; rw [hd]; simp
theorem live_mono {W W' : PW} (hd : W.dead = []) (hd' : W'.dead = []) (hl : W.L.length ≤ W'.L.length) {i : Int} (h : liveB W i = true) : liveB W' i = true := by
  rw [live_nil hd] at h; rw [live_nil hd']
  have := of_decide_eq_true h
  exact decide_eq_true (by omega)
theorem allTo_mono {f g : Nat → Bool} {n : Nat} (h : allTo f n = true) (hfg : ∀ i, i < n → f i = true → g i = true) : allTo g n = true :=
  (allTo_iff g n).2 fun i hi => hfg i hi ((allTo_iff f n).1 h i hi)
theorem shape_mono {n m : Nat} {t : PT} (hm : n ≤ m) (h : shapeB n t = true) : shapeB m t = true := by
  unfold shapeB at *
  by_cases h3 : t.fmt = 3
  · rw [if_pos h3] at *; exact h
  · rw [if_neg h3] at *
    by_cases h1 : t.fmt = 1 ∨ t.fmt = 2
    · rw [if_pos h1] at *
      simp only [Bool.and_eq_true] at *
      refine ⟨h.1, h.2.1, ?_⟩
      exact allTo_mono h.2.2 fun i _ hf => MS.fldB_mono hf hm
    · rw [if_neg h1] at h; cases h
theorem prevH_app (L : List PT) (x : PT) (i : Nat) (hi : i ≤ L.length) : prevH (L ++ [x]) i = prevH L i := by
  cases i with
  | zero => rfl
  | succ i => show (tAt (L ++ [x]) i).hash = (tAt L i).hash; rw [MS.tAt_app, if_pos (by omega)]
theorem there_mono {W W' : PW} (hd : W.dead = []) (hd' : W'.dead = []) (hl : W.L.length ≤ W'.L.length) {i : Int} (h : thereB W i = true) : thereB W' i = true := by
  unfold thereB at *
  rw [Bool.and_eq_true] at *
  exact ⟨h.1, live_mono hd hd' hl h.2⟩
theorem check_add {W : PW} {c f : Int} {F : List PV} {B : ByteArray} (h : checkB W = true) (hd : W.dead = []) (hl : W.last < 3000) (hn : W.L.length < 3000) (hc : 0 ≤ c ∧ c < W.L.length) (hk : isClsB (tAt W.L c.toNat) = true)
    (hs : shapeB (W.L.length + 1) ⟨c, f, W.last + 1, false, F, B⟩ = true) : checkB (W.add c f F B) = true := by
  have hd' : (W.add c f F B).dead = [] := hd
  have hlen : (W.add c f F B).L.length = W.L.length + 1 := by unfold PW.add; simp
  have hle : W.L.length ≤ (W.add c f F B).L.length := by omega
  have T : ∀ i, i < W.L.length → tAt (W.add c f F B).L i = tAt W.L i := fun i hi => by show tAt (W.L ++ [_]) i = _; rw [MS.tAt_app, if_pos hi]
  have TN : tAt (W.add c f F B).L W.L.length = ⟨c, f, W.last + 1, false, F, B⟩ := by show tAt (W.L ++ [_]) _ = _; rw [MS.tAt_app, if_neg (by omega), if_pos rfl]
  unfold checkB at h ⊢
  simp only [Bool.and_eq_true] at h ⊢
  obtain ⟨h1, h2, h3, h4, h5⟩ := h
  have h1 := of_decide_eq_true h1
  refine ⟨decide_eq_true (by omega), decide_eq_true (by rw [hd']; exact .inl rfl), ?_, ?_, ?_⟩
  · unfold thingsB at *
    simp only [Bool.and_eq_true] at *
    obtain ⟨g1, g2, g3⟩ := h3
    have g2 := of_decide_eq_true g2
    have g3 := of_decide_eq_true g3
    refine ⟨(allTo_iff _ _).2 fun i hi => ?_, decide_eq_true ?_, decide_eq_true (by show W.last + 1 ≤ 3000; omega)⟩
    · rw [hlen] at hi
      by_cases hi2 : i < W.L.length
      · have o := (allTo_iff _ _).1 g1 i hi2
        unfold oneB at *
        rw [T i hi2]
        show (decide (prevH (W.L ++ [_]) i < _) && _) = true
        rw [prevH_app _ _ _ (by omega)]
        simp only [Bool.and_eq_true] at *
        refine ⟨o.1, o.2.1, ?_⟩
        have p := o.2.2
        unfold thingB at *
        rw [T i hi2]
        have lv : liveB W (i : Int) = true := by rw [live_nil hd]; exact decide_eq_true (by omega)
        have lv' : liveB (W.add c f F B) (i : Int) = true := live_mono hd hd' hle lv
        rw [lv'] 
        rw [lv] at p
        simp only [Bool.and_eq_true, if_true] at p ⊢
        obtain ⟨p1, p2, p3, p4, p5⟩ := p
        have p1 := of_decide_eq_true p1
        refine ⟨decide_eq_true (by omega), shape_mono hle p2, live_mono hd hd' hle p3, ?_, ?_⟩
        · rw [T _ (by omega)]; exact p4
        · refine allTo_mono p5 fun j _ hj => ?_
          rw [Bool.or_eq_true] at *
          exact hj.imp id (live_mono hd hd' hle)
      · obtain rfl : i = W.L.length := by omega
        unfold oneB
        rw [TN]
        show (decide (prevH (W.L ++ [_]) _ < _) && _) = true
        rw [prevH_app _ _ _ (by omega)]
        simp only [Bool.and_eq_true]
        refine ⟨decide_eq_true (by show _ < W.last + 1; omega), decide_eq_true (by show W.last + 1 ≤ 3000; omega), ?_⟩
        unfold thingB
        rw [TN]
        have lv' : liveB (W.add c f F B) (W.L.length : Int) = true := by rw [live_nil hd']; exact decide_eq_true (by omega)
        have lc : liveB (W.add c f F B) c = true := by rw [live_nil hd']; exact decide_eq_true (by omega)
        rw [lv', hlen]
        simp only [Bool.and_eq_true, if_true]
        refine ⟨decide_eq_true (by show 0 ≤ c ∧ c < _; omega), hs, lc, ?_, ?_⟩
        · show isClsB (tAt (W.add c f F B).L c.toNat) = true
          rw [T _ (by omega)]; exact hk
        · refine (allTo_iff _ _).2 fun j hj => ?_
          have hj : j < F.length := hj
          show (!(vAt F j).obj || liveB _ (vAt F j).n) = true
          cases ho : (vAt F j).obj with
          | false => rfl
          | true =>
            rw [live_nil hd', hlen]
            unfold shapeB at hs
            by_cases hf3 : f = 3
            · rw [if_pos hf3] at hs
              simp only [Bool.and_eq_true] at hs
              have := of_decide_eq_true hs.1
              omega
            · rw [if_neg hf3] at hs
              split at hs
              · simp only [Bool.and_eq_true] at hs
                have := (allTo_iff _ _).1 hs.2.2 j hj
                unfold fldB at this
                have this : (if (vAt F j).obj = true then decide (0 ≤ (vAt F j).n ∧ (vAt F j).n < ((W.L.length + 1 : Nat) : Int)) else fitsB (vAt F j).n) = true := this
                rw [if_pos ho] at this
                have := of_decide_eq_true this
                exact decide_eq_true this
              · cases hs
    · rw [hlen]
      show (tAt (W.add c f F B).L W.L.length).hash ≤ W.last + 1
      rw [TN]; exact Int.le_refl _
  · refine allTo_mono h4 fun i hi hf => ?_
    unfold spec1B at *
    rw [T i (by omega)]; exact hf
  · unfold regsB at *
    simp only [Bool.and_eq_true] at *
    obtain ⟨r1, r2, r3, r4, r5, r6, r7, r8⟩ := h5
    refine ⟨?_, ?_, ?_, ?_, r5, ?_, r7, r8⟩
    · rw [Bool.or_eq_true] at *; exact r1.imp id (there_mono hd hd' hle)
    · rw [Bool.or_eq_true] at *; exact r2.imp id (there_mono hd hd' hle)
    · exact allTo_mono r3 fun j _ hj => there_mono hd hd' hle hj
    · exact allTo_mono r4 fun j _ hj => there_mono hd hd' hle hj
    · refine allTo_mono r6 fun j _ hj => ?_
      rw [Bool.and_eq_true] at *
      exact ⟨there_mono hd hd' hle hj.1, there_mono hd hd' hle hj.2⟩
end Go.Proofs.Ytadhkmplhgcgkaa.World
