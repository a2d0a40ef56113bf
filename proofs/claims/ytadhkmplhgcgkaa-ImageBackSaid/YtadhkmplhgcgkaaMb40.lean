/-
  CanonPlain6, as one text (a claim has at most 60 files).
-/
import Derived.Test.YtadhkmplhgcgkaaMb39
namespace Go.Proofs.Ytadhkmplhgcgkaa.World
open Go.RowKit Go.Proofs.Ytadhkmplhgcgkaa.Plain
set_option linter.unusedVariables false
def newT (W : PW) : PT := ⟨10, 1, W.last + 1, false, [⟨true, (W.L.length : Int)⟩], ByteArray.empty⟩
/-- a thing more, that has itself alone -/
def moreW (W : PW) : PW := { L := W.L ++ [newT W], dead := (if W.dead.length = 0 then [] else W.dead ++ [false]), last := W.last + 1, R := W.R }
section
variable {W : PW}
theorem more_len : (moreW W).L.length = W.L.length + 1 := by unfold moreW; simp
theorem more_at (j : Nat) : tAt (moreW W).L j = if j < W.L.length then tAt W.L j else if j = W.L.length then newT W else dT := MS.tAt_app W.L (newT W) j
theorem dead_len (h : checkB W = true) : W.dead.length = 0 ∨ W.dead.length = W.L.length := by
  unfold checkB at h
  simp only [Bool.and_eq_true, decide_eq_true_eq] at h
  exact h.2.1
theorem more_live (h : checkB W = true) (i : Int) : liveB (moreW W) i = (liveB W i || decide (i = W.L.length)) := by
  have hd := dead_len h
  unfold liveB
  rw [more_len]
  have e : ∀ k : Nat, k < W.L.length → (moreW W).dead.getD k false = W.dead.getD k false := fun k hk => by
    unfold moreW
    by_cases z : W.dead.length = 0
    · rw [if_pos z]
      rw [List.getD_eq_getElem?_getD, List.getD_eq_getElem?_getD, List.getElem?_eq_none (by simp), List.getElem?_eq_none (by omega)]
    · rw [if_neg z]
      rw [List.getD_eq_getElem?_getD, List.getD_eq_getElem?_getD, List.getElem?_append_left (by omega)]
  have eN : (moreW W).dead.getD W.L.length false = false := by
    unfold moreW
    by_cases z : W.dead.length = 0
    · rw [if_pos z]; rfl
    · rw [if_neg z]
      rw [List.getD_eq_getElem?_getD, List.getElem?_append_right (by omega)]
      have : W.L.length - W.dead.length = 0 := by omega
      rw [this]; rfl
  by_cases h0 : 0 ≤ i ∧ i < W.L.length
  · rw [decide_eq_true h0, decide_eq_true (by omega), e _ (by omega), decide_eq_false (by omega)]; simp
  · by_cases hN : i = W.L.length
    · subst hN
      rw [Int.toNat_natCast, eN, decide_eq_true (by omega), decide_eq_true rfl]; simp
    · rw [decide_eq_false h0, decide_eq_false (by omega), decide_eq_false hN]; rfl
theorem more_live_old (h : checkB W = true) {i : Int} (hl : liveB W i = true) : liveB (moreW W) i = true := by rw [more_live h, hl]; rfl
theorem more_there (h : checkB W = true) {i : Int} (ht : thereB W i = true) : thereB (moreW W) i = true := by
  unfold thereB at *
  rw [Bool.and_eq_true] at *
  exact ⟨ht.1, more_live_old h ht.2⟩
theorem more_prev (i : Nat) (hi : i ≤ W.L.length) : prevH (moreW W).L i = prevH W.L i := prevH_app W.L (newT W) i hi
theorem cls10 (h : checkB W = true) : isClsB (tAt W.L 10) = true ∧ liveB W 10 = true := by
  have hl := check_len h
  have sp := h
  unfold checkB at sp
  simp only [Bool.and_eq_true] at sp
  have s3 := (allTo_iff _ _).1 (show allTo (spec1B W) 23 = true from sp.2.2.2.1) 3 (by omega)
  have c3 : (tAt W.L 3).cls = 10 := by
    unfold spec1B at s3
    rw [if_neg (by omega), if_pos (by omega)] at s3
    exact of_decide_eq_true s3
  obtain ⟨_, _, _, _, e, f⟩ := (one_iff W 3).1 (check_one h (by omega))
  have l3 : liveB W ((3 : Nat) : Int) = true := by
    cases hv : liveB W ((3 : Nat) : Int) with
    | true => rfl
    | false => have := f hv; omega
  have q := (e l3).1
  unfold classB at q
  rw [c3, Bool.and_eq_true] at q
  exact ⟨q.2, q.1⟩
theorem more_check (h : checkB W = true) (hl : W.last < 3000) (hn : W.L.length < 3000) : checkB (moreW W) = true := by
  have hlen := check_len h
  have hd := dead_len h
  have c10 := cls10 h
  have hc := h
  unfold checkB at hc ⊢
  simp only [Bool.and_eq_true] at hc ⊢
  refine ⟨by rw [more_len]; exact decide_eq_true (by omega), ?_, ?_, ?_, ?_⟩
  · rw [more_len]
    unfold moreW
    by_cases z : W.dead.length = 0
    · rw [if_pos z]; rfl
    · rw [if_neg z]
      show decide ((W.dead ++ [false]).length = 0 ∨ (W.dead ++ [false]).length = W.L.length + 1) = true
      rw [List.length_append]
      exact decide_eq_true (.inr (by show W.dead.length + 1 = _; omega))
  · unfold thingsB
    rw [Bool.and_eq_true, Bool.and_eq_true, allTo_iff, more_len]
    refine ⟨fun i hi => ?_, decide_eq_true ?_, decide_eq_true ?_⟩
    · rw [one_iff, more_at, more_prev i (by omega), more_len]
      by_cases hiN : i < W.L.length
      · rw [if_pos hiN]
        obtain ⟨o1, o2, o3, o4, o5, o6⟩ := (one_iff W i).1 (check_one h hiN)
        have hle : liveB (moreW W) i = liveB W i := by rw [more_live h, decide_eq_false (by omega), Bool.or_false]
        refine ⟨o1, o2, by omega, shape_mono (by omega) o4, fun hv => ?_, fun hv => o6 (by rw [← hle]; exact hv)⟩
        rw [hle] at hv
        obtain ⟨p1, p2⟩ := o5 hv
        unfold classB at p1 ⊢
        rw [Bool.and_eq_true] at p1
        refine ⟨?_, ?_⟩
        · rw [more_live_old h p1.1, more_at, if_pos (by omega), p1.2]; rfl
        · unfold liveF at p2 ⊢
          exact allTo_mono p2 (fun p hp hf => by
            rw [Bool.or_eq_true] at hf ⊢
            exact hf.imp id (more_live_old h))
      · obtain rfl : i = W.L.length := by omega
        rw [if_neg (by omega), if_pos rfl]
        have hlast : prevH W.L W.L.length ≤ W.last := by
          have hT := hc.2.2.1
          unfold thingsB at hT
          simp only [Bool.and_eq_true, decide_eq_true_eq] at hT
          exact hT.2.1
        have lN : liveB (moreW W) (W.L.length : Int) = true := by rw [more_live h, decide_eq_true rfl, Bool.or_true]
        refine ⟨?_, ?_, ?_, ?_, fun _ => ⟨?_, ?_⟩, fun hv => by omega⟩
        · show prevH W.L W.L.length < W.last + 1; omega
        · show W.last + 1 ≤ 3000; omega
        · show (0 : Int) ≤ 10 ∧ (10 : Int) < _; omega
        · unfold shapeB newT
          show (if (1 : Int) = 3 then _ else if (1 : Int) = 1 ∨ (1 : Int) = 2 then (decide (ByteArray.empty.size = 0) && (decide (1 ≤ 60) && fldsB (W.L.length + 1) [⟨true, (W.L.length : Int)⟩])) else false) = true
          rw [if_neg (by omega), if_pos (by omega)]
          have : fldsB (W.L.length + 1) [⟨true, (W.L.length : Int)⟩] = true := by
            show (true && decide (0 ≤ (W.L.length : Int) ∧ (W.L.length : Int) < ((W.L.length + 1 : Nat) : Int))) = true
            rw [decide_eq_true (by omega)]; rfl
          rw [this]; rfl
        · show classB (moreW W) 10 = true
          unfold classB
          rw [more_live_old h c10.2, more_at, if_pos (by show (10 : Int).toNat < _; omega)]
          show (true && isClsB (tAt W.L 10)) = true
          rw [c10.1]; rfl
        · show (true && (!true || liveB (moreW W) (W.L.length : Int))) = true
          rw [lN]; rfl
    · rw [prevH_succ, more_at, if_neg (by omega), if_pos rfl]; exact Int.le_refl _
    · show W.last + 1 ≤ 3000; omega
  · unfold specB
    rw [allTo_iff]
    intro i hi
    have s := (allTo_iff _ _).1 (show allTo (spec1B W) 23 = true from hc.2.2.2.1) i hi
    have e : tAt (moreW W).L i = tAt W.L i := by rw [more_at, if_pos (by omega)]
    unfold spec1B at s ⊢
    rw [e]
    exact s
  · have hg := hc.2.2.2.2
    unfold regsB at hg ⊢
    simp only [Bool.and_eq_true, Bool.or_eq_true, decide_eq_true_eq] at hg ⊢
    obtain ⟨g1, g2, g3, g4, g5, g6, g7, g8⟩ := hg
    refine ⟨g1.imp id (more_there h), g2.imp id (more_there h), ?_, ?_, g5, ?_, g7, g8⟩
    · unfold thereL at g3 ⊢; exact allTo_mono g3 (fun _ _ hf => more_there h hf)
    · unfold thereL at g4 ⊢; exact allTo_mono g4 (fun _ _ hf => more_there h hf)
    · unfold waitB at g6 ⊢
      exact allTo_mono g6 (fun _ _ hf => by
        rw [Bool.and_eq_true] at hf ⊢
        exact ⟨more_there h hf.1, more_there h hf.2⟩)
/-- nothing leads to it -/
theorem more_next (weak : Bool) (i : Nat) (hi : i < W.L.length) : nxW (moreW W) weak i = nxW W weak i := by
  unfold nxW
  rw [more_at, if_pos hi]
theorem more_rch (h : checkB W = true) {weak : Bool} {i : Nat} : Rch (nxW (moreW W) weak) (rootsOf (moreW W).R) i ↔ Rch (nxW W weak) (rootsOf W.R) i := by
  constructor
  · intro hr
    induction hr with
    | root hm => exact .root hm
    | @step i j hr hj ih =>
      rw [more_next weak i (rch_lt h ih)] at hj
      exact .step ih hj
  · intro hr
    induction hr with
    | root hm => exact .root hm
    | @step i j hr hj ih =>
      rw [← more_next weak i (rch_lt h hr)] at hj
      exact .step ih hj
theorem sB_more (l : List Bool) (i : Nat) : sB (l ++ [false]) i = sB l i := by
  unfold sB
  rw [List.getD_eq_getElem?_getD, List.getD_eq_getElem?_getD]
  by_cases hi : i < l.length
  · rw [List.getElem?_append_left hi]
  · rw [List.getElem?_eq_none (show l.length ≤ i by omega)]
    by_cases e : i = l.length
    · subst e; simp
    · rw [List.getElem?_eq_none (by simp; omega)]
theorem more_list (h : checkB W = true) {l l' : List Bool} {weak : Bool} (hl : RchL W.L.length (nxW W weak) (rootsOf W.R) l) (hl' : RchL (moreW W).L.length (nxW (moreW W) weak) (rootsOf (moreW W).R) l') : l' = l ++ [false] := by
  refine hl'.uniq ⟨by rw [more_len, List.length_append, hl.1]; rfl, fun i => ?_⟩
  rw [sB_more, more_rch h]
  exact hl.2 i
theorem rank_more (l : List Bool) : ∀ i, i ≤ l.length → rankL (l ++ [false]) i = rankL l i := by
  intro i
  induction i with
  | zero => intro _; rfl
  | succ i ih =>
    intro hi
    rw [rankL_succ _ i (by simp; omega), rankL_succ l i (by omega), ih (by omega), sB_more]
theorem fA_more (l : List Bool) (x : Int) (h0 : 0 ≤ x) (hs : sB l x.toNat = true) : fA (atL (l ++ [false])) x = fA (atL l) x := by
  rw [fA_rank _ x h0 (by rw [sB_more]; exact hs), fA_rank _ x h0 hs, rank_more l _ (Nat.le_of_lt (sB_lt hs))]
theorem canon_more {l : List Bool} (h : CanW W l) : canonW (moreW W) (l ++ [false]) = { canonW W l with last := W.last + 1 } := by
  have hL : canK (moreW W) (l ++ [false]) (moreW W).L.length = canK W l W.L.length := by
    rw [more_len, canK_succ]
    have hN : sB (l ++ [false]) W.L.length = false := by
      rw [sB_more]; unfold sB
      rw [List.getD_eq_getElem?_getD, List.getElem?_eq_none (by rw [h.len]; exact Nat.le_refl _)]; rfl
    rw [if_neg (by rw [hN]; decide), List.append_nil]
    unfold canK
    have e : (List.range W.L.length).filter (fun j => sB (l ++ [false]) j) = (List.range W.L.length).filter (fun j => sB l j) := by
      congr 1; funext j; exact sB_more l j
    rw [e]
    refine List.map_congr_left (fun j hj => ?_)
    obtain ⟨hj1, hj2⟩ := List.mem_filter.1 hj
    have hjN := List.mem_range.1 hj1
    rw [more_at, if_pos hjN]
    unfold canT
    obtain ⟨c0, cs⟩ := h.cls hj2
    rw [fA_more l _ c0 cs]
    congr 1
    refine List.map_congr_left (fun v hv => ?_)
    unfold canV
    by_cases ho : v.obj = true
    · rw [if_pos ho, if_pos ho]
      obtain ⟨p, hp, ep⟩ := List.mem_iff_getElem.1 hv
      have ev : vAt (tAt W.L j).F p = v := by unfold vAt; rw [List.getD_eq_getElem?_getD, List.getElem?_eq_getElem hp, ep]; rfl
      obtain ⟨a, b⟩ := h.fld hj2 hp (by rw [ev]; exact ho)
      rw [ev] at a b
      rw [fA_more l _ a b]
    · rw [if_neg ho, if_neg ho]
  have hg := check_regs h.chk
  unfold regsB at hg
  simp only [Bool.and_eq_true, Bool.or_eq_true, decide_eq_true_eq] at hg
  obtain ⟨g1, g2, g3, g4, _, g6, _⟩ := hg
  have ok : ∀ x, InR W.R x → (x = 0 ∨ thereB W x = true) → toldN (fA (atL (l ++ [false]))) x = toldN (fA (atL l)) x := fun x hx ht => by
    unfold toldN
    by_cases e : x = 0
    · rw [if_pos e, if_pos e]
    · rw [if_neg e, if_neg e]
      rcases ht with ht | ht
      · exact absurd ht e
      · obtain ⟨a, b⟩ := h.reg hx ht
        exact fA_more l x (by omega) b
  have hR : toldR (fA (atL (l ++ [false]))) (moreW W).R = toldR (fA (atL l)) W.R := by
    show toldR _ W.R = _
    unfold toldR
    rw [ok _ (.inl rfl) g1, ok _ (.inr (.inl rfl)) g2, List.map_congr_left (fun x hx => ok x (.inr (.inr (.inl hx))) (.inr (thereL_all g3 x hx))),
      List.map_congr_left (fun x hx => ok x (.inr (.inr (.inr (.inl hx)))) (.inr (thereL_all g4 x hx)))]
    rw [List.map_congr_left (f := toldP (fA (atL (l ++ [false])))) (g := toldP (fA (atL l))) (fun p hp => by
      unfold waitB at g6
      obtain ⟨q, hq, hqv⟩ := List.mem_iff_getElem.1 hp
      have f := (allTo_iff _ _).1 g6 q hq
      unfold wAt at f
      rw [List.getD_eq_getElem?_getD, List.getElem?_eq_getElem hq, hqv] at f
      rw [Bool.and_eq_true] at f
      unfold toldP
      rw [ok p.1 (.inr (.inr (.inr (.inr ⟨p, hp, .inl rfl⟩)))) (.inr f.1), ok p.2 (.inr (.inr (.inr (.inr ⟨p, hp, .inr rfl⟩)))) (.inr f.2)])]
  unfold canonW
  rw [hL, hR]; rfl
end
end Go.Proofs.Ytadhkmplhgcgkaa.World
