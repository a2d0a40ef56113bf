/-
  FirstPlain, as one text (a claim has at most 60 files).
-/
import Derived.Test.YtjpalcejmloocaaGreatCt13
namespace Go.Proofs.YtjpalcejmloocaaGreat.World
open Go.RowKit Go.Proofs.YtjpalcejmloocaaGreat.Plain
set_option linter.unusedVariables false

def num (n : Int) : PV := ⟨false, n⟩
def objV (n : Int) : PV := ⟨true, n⟩
def sizes16 : List Int := [0, 0, 0, 0, 0, 0, 0, 5, 0, 22, 4, 2, 1, 0, 2, 2]
def fmts16 : List Int := [1, 1, 1, 1, 1, 3, 3, 1, 1, 1, 1, 1, 1, 2, 1, 1]
def txtLost : ByteArray := ⟨#[108, 111, 115, 116]⟩
def txtBool : ByteArray := ⟨#[98, 111, 111, 108]⟩
def txtBack : ByteArray := ⟨#[98, 97, 99, 107]⟩
def names3 : List ByteArray := [txtLost, txtBool, txtBack]
def firstT (i : Nat) : PT :=
  if i < 3 then ⟨3 + i, 1, i + 1, false, [], ByteArray.empty⟩
  else if i < 19 then ⟨10, 1, i + 1, false, [objV 0, objV 0, objV 0, num (sizes16.getD (i - 3) 0), num (fmts16.getD (i - 3) 0)], ByteArray.empty⟩
  else if i < 22 then ⟨9, 3, i + 1, false, [], names3.getD (i - 19) ByteArray.empty⟩
  else ⟨15, 1, i + 1, false, [num 0], ByteArray.empty⟩
def firstL (n : Nat) : List PT := (List.range n).map firstT
def regs0 : PR := ⟨0, 0, [], [], [], ByteArray.empty, ByteArray.empty, 0, 0, []⟩
def firstW : PW := ⟨firstL 23, [], 23, regs0⟩
theorem firstL_succ (n : Nat) : firstL (n + 1) = firstL n ++ [firstT n] := by unfold firstL; rw [List.range_succ, List.map_append]; rfl
theorem firstL_len (n : Nat) : (firstL n).length = n := by unfold firstL; simp
theorem first_check : checkB firstW = true := by decide +kernel

/-! ### a thing more -/
def PW.add (W : PW) (c f : Int) (F : List PV) (B : ByteArray) : PW := { W with L := W.L ++ [⟨c, f, W.last + 1, false, F, B⟩], last := W.last + 1 }
theorem live_nil {W : PW} (hd : W.dead = []) (i : Int) : liveB W i = decide (0 ≤ i ∧ i < W.L.length) := by
  unfold liveB; rw [hd]; simp
theorem live_mono {W W' : PW} (hd : W.dead = []) (hd' : W'.dead = []) (hl : W.L.length ≤ W'.L.length) {i : Int} (h : liveB W i = true) : liveB W' i = true := by
  rw [live_nil hd] at h; rw [live_nil hd']
  have := of_decide_eq_true h
  exact decide_eq_true (by omega)
theorem allTo_mono {f g : Nat → Bool} {n : Nat} (h : allTo f n = true) (hfg : ∀ i, i < n → f i = true → g i = true) : allTo g n = true :=
  (allTo_iff g n).2 fun i hi => hfg i hi ((allTo_iff f n).1 h i hi)
theorem shape_mono {n m : Nat} {t : PT} (hm : n ≤ m) (h : shapeB n t = true) : shapeB m t = true := by
  unfold shapeB at *
  by_cases h3 : t.fmt = 3
  · rw [if_pos h3] at *; exact h
  · rw [if_neg h3] at *
    by_cases h1 : t.fmt = 1 ∨ t.fmt = 2
    · rw [if_pos h1] at *
      simp only [Bool.and_eq_true] at *
      refine ⟨h.1, h.2.1, ?_⟩
      exact allTo_mono h.2.2 fun i _ hf => MS.fldB_mono hf hm
    · rw [if_neg h1] at h; cases h
theorem prevH_app (L : List PT) (x : PT) (i : Nat) (hi : i ≤ L.length) : prevH (L ++ [x]) i = prevH L i := by
  cases i with
  | zero => rfl
  | succ i => show (tAt (L ++ [x]) i).hash = (tAt L i).hash; rw [MS.tAt_app, if_pos (by omega)]
theorem there_mono {W W' : PW} (hd : W.dead = []) (hd' : W'.dead = []) (hl : W.L.length ≤ W'.L.length) {i : Int} (h : thereB W i = true) : thereB W' i = true := by
  unfold thereB at *
  rw [Bool.and_eq_true] at *
  exact ⟨h.1, live_mono hd hd' hl h.2⟩
theorem check_add {W : PW} {c f : Int} {F : List PV} {B : ByteArray} (h : checkB W = true) (hd : W.dead = []) (hl : W.last < 3000) (hn : W.L.length < 3000) (hc : 0 ≤ c ∧ c < W.L.length) (hk : isClsB (tAt W.L c.toNat) = true)
    (hs : shapeB (W.L.length + 1) ⟨c, f, W.last + 1, false, F, B⟩ = true) : checkB (W.add c f F B) = true := by
  have hd' : (W.add c f F B).dead = [] := hd
  have hlen : (W.add c f F B).L.length = W.L.length + 1 := by unfold PW.add; simp
  have hle : W.L.length ≤ (W.add c f F B).L.length := by omega
  have T : ∀ i, i < W.L.length → tAt (W.add c f F B).L i = tAt W.L i := fun i hi => by show tAt (W.L ++ [_]) i = _; rw [MS.tAt_app, if_pos hi]
  have TN : tAt (W.add c f F B).L W.L.length = ⟨c, f, W.last + 1, false, F, B⟩ := by show tAt (W.L ++ [_]) _ = _; rw [MS.tAt_app, if_neg (by omega), if_pos rfl]
  unfold checkB at h ⊢
  simp only [Bool.and_eq_true] at h ⊢
  obtain ⟨h1, h2, h3, h4, h5⟩ := h
  have h1 := of_decide_eq_true h1
  refine ⟨decide_eq_true (by omega), decide_eq_true (by rw [hd']; exact .inl rfl), ?_, ?_, ?_⟩
  · unfold thingsB at *
    simp only [Bool.and_eq_true] at *
    obtain ⟨g1, g2, g3⟩ := h3
    have g2 := of_decide_eq_true g2
    have g3 := of_decide_eq_true g3
    refine ⟨(allTo_iff _ _).2 fun i hi => ?_, decide_eq_true ?_, decide_eq_true (by show W.last + 1 ≤ 3000; omega)⟩
    · rw [hlen] at hi
      by_cases hi2 : i < W.L.length
      · have o := (allTo_iff _ _).1 g1 i hi2
        unfold oneB at *
        rw [T i hi2]
        show (decide (prevH (W.L ++ [_]) i < _) && _) = true
        rw [prevH_app _ _ _ (by omega)]
        simp only [Bool.and_eq_true] at *
        refine ⟨o.1, o.2.1, ?_⟩
        have p := o.2.2
        unfold thingB at *
        rw [T i hi2]
        have lv : liveB W (i : Int) = true := by rw [live_nil hd]; exact decide_eq_true (by omega)
        have lv' : liveB (W.add c f F B) (i : Int) = true := live_mono hd hd' hle lv
        rw [lv'] 
        rw [lv] at p
        simp only [Bool.and_eq_true, if_true] at p ⊢
        obtain ⟨p1, p2, p3, p4, p5⟩ := p
        have p1 := of_decide_eq_true p1
        refine ⟨decide_eq_true (by omega), shape_mono hle p2, live_mono hd hd' hle p3, ?_, ?_⟩
        · rw [T _ (by omega)]; exact p4
        · refine allTo_mono p5 fun j _ hj => ?_
          rw [Bool.or_eq_true] at *
          exact hj.imp id (live_mono hd hd' hle)
      · obtain rfl : i = W.L.length := by omega
        unfold oneB
        rw [TN]
        show (decide (prevH (W.L ++ [_]) _ < _) && _) = true
        rw [prevH_app _ _ _ (by omega)]
        simp only [Bool.and_eq_true]
        refine ⟨decide_eq_true (by show _ < W.last + 1; omega), decide_eq_true (by show W.last + 1 ≤ 3000; omega), ?_⟩
        unfold thingB
        rw [TN]
        have lv' : liveB (W.add c f F B) (W.L.length : Int) = true := by rw [live_nil hd']; exact decide_eq_true (by omega)
        have lc : liveB (W.add c f F B) c = true := by rw [live_nil hd']; exact decide_eq_true (by omega)
        rw [lv', hlen]
        simp only [Bool.and_eq_true, if_true]
        refine ⟨decide_eq_true (by show 0 ≤ c ∧ c < _; omega), hs, lc, ?_, ?_⟩
        · show isClsB (tAt (W.add c f F B).L c.toNat) = true
          rw [T _ (by omega)]; exact hk
        · refine (allTo_iff _ _).2 fun j hj => ?_
          have hj : j < F.length := hj
          show (!(vAt F j).obj || liveB _ (vAt F j).n) = true
          cases ho : (vAt F j).obj with
          | false => rfl
          | true =>
            rw [live_nil hd', hlen]
            unfold shapeB at hs
            by_cases hf3 : f = 3
            · rw [if_pos hf3] at hs
              simp only [Bool.and_eq_true] at hs
              have := of_decide_eq_true hs.1
              omega
            · rw [if_neg hf3] at hs
              split at hs
              · simp only [Bool.and_eq_true] at hs
                have := (allTo_iff _ _).1 hs.2.2 j hj
                unfold fldB at this
                have this : (if (vAt F j).obj = true then decide (0 ≤ (vAt F j).n ∧ (vAt F j).n < ((W.L.length + 1 : Nat) : Int)) else fitsB (vAt F j).n) = true := this
                rw [if_pos ho] at this
                have := of_decide_eq_true this
                exact decide_eq_true this
              · cases hs
    · rw [hlen]
      show (tAt (W.add c f F B).L W.L.length).hash ≤ W.last + 1
      rw [TN]; exact Int.le_refl _
  · refine allTo_mono h4 fun i hi hf => ?_
    unfold spec1B at *
    rw [T i (by omega)]; exact hf
  · unfold regsB at *
    simp only [Bool.and_eq_true] at *
    obtain ⟨r1, r2, r3, r4, r5, r6, r7, r8⟩ := h5
    refine ⟨?_, ?_, ?_, ?_, r5, ?_, r7, r8⟩
    · rw [Bool.or_eq_true] at *; exact r1.imp id (there_mono hd hd' hle)
    · rw [Bool.or_eq_true] at *; exact r2.imp id (there_mono hd hd' hle)
    · exact allTo_mono r3 fun j _ hj => there_mono hd hd' hle hj
    · exact allTo_mono r4 fun j _ hj => there_mono hd hd' hle hj
    · refine allTo_mono r6 fun j _ hj => ?_
      rw [Bool.and_eq_true] at *
      exact ⟨there_mono hd hd' hle hj.1, there_mono hd hd' hle hj.2⟩
end Go.Proofs.YtjpalcejmloocaaGreat.World
