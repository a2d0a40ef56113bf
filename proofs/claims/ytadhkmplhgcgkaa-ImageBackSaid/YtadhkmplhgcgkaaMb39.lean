/-
  CanonPlain4, CanonPlain5, as one text (a claim has at most 60 files).
-/
import Derived.Test.YtadhkmplhgcgkaaMb38
namespace Go.Proofs.Ytadhkmplhgcgkaa.World
open Go.RowKit Go.Proofs.Ytadhkmplhgcgkaa.Plain
set_option linter.unusedVariables false
/-! ### what registers lead to -/
theorem add1_old {l : List Int} {x y : Int} (h : y ∈ l) : y ∈ add1 l x := by
  unfold add1; split
  · exact List.mem_append_left _ h
  · exact h
theorem add1_self {l : List Int} {x : Int} (h : x ≠ 0) : x ∈ add1 l x := by
  unfold add1; split
  · simp
  · rename_i c
    have : l.contains x = true := by
      cases hc : l.contains x with
      | true => rfl
      | false => exact absurd ⟨h, hc⟩ c
    exact List.contains_iff_mem.1 this
theorem fold_old (l : List Int) : ∀ l0 : List Int, ∀ y ∈ l0, y ∈ l.foldl add1 l0 := by
  induction l with
  | nil => intro l0 y h; exact h
  | cons a l ih => intro l0 y h; exact ih _ y (add1_old h)
theorem fold_new (l : List Int) : ∀ l0 : List Int, ∀ y ∈ l, y ≠ 0 → y ∈ l.foldl add1 l0 := by
  induction l with
  | nil => intro l0 y h; cases h
  | cons a l ih =>
    intro l0 y h hy
    rcases List.mem_cons.1 h with e | e
    · subst e; exact fold_old l _ _ (add1_self hy)
    · exact ih _ y e hy
theorem fold2_old (l : List (Int × Int)) : ∀ l0 : List Int, ∀ y ∈ l0, y ∈ l.foldl (fun l p => add1 (add1 l p.1) p.2) l0 := by
  induction l with
  | nil => intro l0 y h; exact h
  | cons a l ih => intro l0 y h; exact ih _ y (add1_old (add1_old h))
theorem fold2_new (l : List (Int × Int)) : ∀ l0 : List Int, ∀ p ∈ l, (p.1 ≠ 0 → p.1 ∈ l.foldl (fun l p => add1 (add1 l p.1) p.2) l0) ∧ (p.2 ≠ 0 → p.2 ∈ l.foldl (fun l p => add1 (add1 l p.1) p.2) l0) := by
  induction l with
  | nil => intro l0 p h; cases h
  | cons a l ih =>
    intro l0 p h
    rcases List.mem_cons.1 h with e | e
    · subst e
      exact ⟨fun hp => fold2_old l _ _ (add1_old (add1_self hp)), fun hp => fold2_old l _ _ (add1_self hp)⟩
    · exact ih _ p e
/-- one of the places that registers hold -/
def InR (R : PR) (x : Int) : Prop := x = R.proc ∨ x = R.frame ∨ x ∈ R.ready ∨ x ∈ R.due ∨ ∃ p ∈ R.wait, x = p.1 ∨ x = p.2
theorem mem_listOf {R : PR} {x : Int} (h : InR R x) (hx : x ≠ 0) : x ∈ listOf R := by
  unfold listOf
  rcases h with h | h | h | h | ⟨p, hp, h⟩
  · exact fold_old _ _ _ (fold2_old _ _ _ (fold_old _ _ _ (add1_old (by rw [h]; exact add1_self (by rw [← h]; exact hx)))))
  · exact fold_old _ _ _ (fold2_old _ _ _ (fold_old _ _ _ (by rw [h]; exact add1_self (by rw [← h]; exact hx))))
  · exact fold_old _ _ _ (fold2_old _ _ _ (fold_new _ _ _ h hx))
  · exact fold_new _ _ _ h hx
  · have q := fold2_new R.wait (R.ready.foldl add1 (add1 (add1 [] R.proc) R.frame)) p hp
    rcases h with h | h
    · subst h; exact fold_old _ _ _ (q.1 hx)
    · subst h; exact fold_old _ _ _ (q.2 hx)
theorem listOf_in {R : PR} : ∀ x ∈ listOf R, InR R x :=
  listOf_all (P := InR R) (.inl rfl) (.inr (.inl rfl)) (fun y hy => .inr (.inr (.inl hy))) (fun p hp => ⟨.inr (.inr (.inr (.inr ⟨p, hp, .inl rfl⟩))), .inr (.inr (.inr (.inr ⟨p, hp, .inr rfl⟩)))⟩) (fun y hy => .inr (.inr (.inr (.inl hy))))
section
variable {W : PW} {l : List Bool}
theorem CanW.reg (h : CanW W l) {x : Int} (hx : InR W.R x) (ht : thereB W x = true) : 0 < x ∧ sB l x.toNat = true := by
  have r := there_in ht
  have h0 : x ≠ 0 := by
    unfold thereB at ht
    rw [Bool.and_eq_true] at ht
    simpa using ht.1
  refine ⟨by omega, ?_⟩
  by_cases h23 : x < 23
  · exact h.first _ (by omega)
  · refine h.sb (.root ?_)
    unfold rootsOf
    exact List.mem_append_right _ (List.mem_filter.2 ⟨mem_listOf hx h0, decide_eq_true (by omega)⟩)
theorem can_there (h : CanW W l) {x : Int} (hx : InR W.R x) (ht : thereB W x = true) : toldN (fA (atL l)) x = (rankL l x.toNat : Int) ∧ 0 < (rankL l x.toNat : Int) ∧ thereB (canonW W l) (toldN (fA (atL l)) x) = true := by
  obtain ⟨h0, hs⟩ := h.reg hx ht
  have e : toldN (fA (atL l)) x = (rankL l x.toNat : Int) := by
    unfold toldN
    rw [if_neg (by omega), fA_rank l x (by omega) hs]
  have p : 0 < rankL l x.toNat := by
    have := rank_lt l (i := 0) (j := x.toNat) (by omega) (Nat.le_of_lt (sB_lt hs)) (h.first 0 (by omega))
    omega
  refine ⟨e, by omega, ?_⟩
  rw [e]
  unfold thereB
  rw [decide_eq_false (by omega), live_nil (show (canonW W l).dead = [] from rfl), h.clen, decide_eq_true ⟨by omega, by have := h.rank_in hs; omega⟩]; rfl
theorem can_regs (h : CanW W l) : regsB (canonW W l) = true := by
  have hg := check_regs h.chk
  unfold regsB at hg ⊢
  simp only [Bool.and_eq_true, Bool.or_eq_true, decide_eq_true_eq] at hg ⊢
  obtain ⟨g1, g2, g3, g4, g5, g6, g7, g8⟩ := hg
  have one : ∀ x, InR W.R x → (x = 0 ∨ thereB W x = true) → (toldN (fA (atL l)) x = 0 ∨ thereB (canonW W l) (toldN (fA (atL l)) x) = true) := fun x hx ht => by
    rcases ht with e | e
    · left; subst e; rfl
    · exact .inr (can_there h hx e).2.2
  have lst : ∀ L : List Int, (∀ x ∈ L, InR W.R x) → thereL W L = true → thereL (canonW W l) (L.map (toldN (fA (atL l)))) = true := fun L hL ht => by
    unfold thereL at ht ⊢
    rw [allTo_iff] at ht ⊢
    rw [List.length_map]
    intro j hj
    have t := ht j hj
    rw [List.getD_eq_getElem?_getD, List.getElem?_eq_getElem hj] at t
    rw [List.getD_eq_getElem?_getD, List.getElem?_map, List.getElem?_eq_getElem hj]
    exact (can_there h (hL _ (List.getElem_mem hj)) t).2.2
  refine ⟨one _ (.inl rfl) g1, one _ (.inr (.inl rfl)) g2, lst _ (fun x hx => .inr (.inr (.inl hx))) g3, lst _ (fun x hx => .inr (.inr (.inr (.inl hx)))) g4, ?_, ?_, ?_, g8⟩
  · show onceB (W.R.due.map (toldN (fA (atL l)))) = true
    unfold onceB at g5 ⊢
    rw [allTo_iff] at g5 ⊢
    rw [List.length_map]
    intro j hj
    have t := g5 j hj
    have mem : ∀ y ∈ W.R.due, InR W.R y ∧ thereB W y = true := fun y hy => ⟨.inr (.inr (.inr (.inl hy))), thereL_all g4 y hy⟩
    rw [List.getD_eq_getElem?_getD, List.getElem?_eq_getElem hj] at t
    rw [List.getD_eq_getElem?_getD, List.getElem?_map, List.getElem?_eq_getElem hj]
    show (!((W.R.due.map (toldN (fA (atL l)))).take j).contains (toldN (fA (atL l)) W.R.due[j])) = true
    have t : (!(W.R.due.take j).contains W.R.due[j]) = true := t
    rw [Bool.not_eq_true'] at t ⊢
    rw [← List.map_take]
    cases hc : ((W.R.due.take j).map (toldN (fA (atL l)))).contains (toldN (fA (atL l)) W.R.due[j]) with
    | false => rfl
    | true =>
      exfalso
      obtain ⟨y, hy, e⟩ := List.mem_map.1 (List.contains_iff_mem.1 hc)
      have my := mem y (List.mem_of_mem_take hy)
      have mx := mem _ (List.getElem_mem hj)
      obtain ⟨a1, a2⟩ := h.reg my.1 my.2
      obtain ⟨b1, b2⟩ := h.reg mx.1 mx.2
      rw [(can_there h my.1 my.2).1, (can_there h mx.1 mx.2).1] at e
      have := rank_inj l a2 b2 (by omega)
      have ee : y = W.R.due[j] := by omega
      rw [← ee] at t
      rw [List.contains_iff_mem.2 hy] at t
      cases t
  · show waitB (canonW W l) (W.R.wait.map (toldP (fA (atL l)))) = true
    unfold waitB at g6 ⊢
    rw [allTo_iff] at g6 ⊢
    rw [List.length_map]
    intro j hj
    have t := g6 j hj
    unfold wAt at t ⊢
    rw [List.getD_eq_getElem?_getD, List.getElem?_eq_getElem hj] at t
    rw [List.getD_eq_getElem?_getD, List.getElem?_map, List.getElem?_eq_getElem hj]
    rw [Bool.and_eq_true] at t ⊢
    exact ⟨(can_there h (.inr (.inr (.inr (.inr ⟨_, List.getElem_mem hj, .inl rfl⟩)))) t.1).2.2, (can_there h (.inr (.inr (.inr (.inr ⟨_, List.getElem_mem hj, .inr rfl⟩)))) t.2).2.2⟩
  · show (W.R.ready.map _).length ≤ 20 ∧ (W.R.wait.map _).length ≤ 20 ∧ (W.R.due.map _).length ≤ 3000 ∧ _
    rw [List.length_map, List.length_map, List.length_map]
    exact g7
theorem can_check (h : CanW W l) : checkB (canonW W l) = true := by
  have hl := check_len h.chk
  have c := h.c23
  have hc := h.chk
  unfold checkB at hc ⊢
  simp only [Bool.and_eq_true] at hc ⊢
  refine ⟨by rw [h.clen]; exact decide_eq_true (by omega), decide_eq_true (.inl rfl), ?_, ?_, can_regs h⟩
  · unfold thingsB
    rw [Bool.and_eq_true, Bool.and_eq_true, allTo_iff, h.clen]
    refine ⟨fun q hq => can_one h hq, decide_eq_true ?_, decide_eq_true ?_⟩
    · obtain ⟨k, hk⟩ : ∃ k, cnt W l = k + 1 := ⟨cnt W l - 1, by omega⟩
      rw [hk, prevH_succ]
      obtain ⟨i, hi, hs, hr⟩ := h.some (q := k) (by omega)
      rw [← hr, h.at_ hs]
      exact (hash_last h.chk i hi).1
    · exact (hash_last h.chk 0 (by omega)).2
  · have sp := hc.2.2.2.1
    unfold specB at sp ⊢
    rw [allTo_iff] at sp ⊢
    intro i hi
    have s := sp i hi
    have hs := h.first i hi
    have e := h.at_ hs
    rw [rank_first l h.first i (by omega)] at e
    have told : ∀ n : Int, 0 ≤ n → n < 23 → fA (atL l) n = n := fun n h0 h1 => by
      rw [fA_rank l n h0 (h.first _ (by omega)), rank_first l h.first _ (by omega)]; omega
    unfold spec1B at s ⊢
    rw [e]
    show (if i ≤ 2 then decide (fA (atL l) (tAt W.L i).cls = 3 + i) else if i ≤ 18 then decide (fA (atL l) (tAt W.L i).cls = 10) else if i < 22 then decide ((tAt W.L i).fmt = 3) else decide ((tAt W.L i).fmt = 1)) = true
    by_cases h2 : i ≤ 2
    · rw [if_pos h2] at s ⊢
      rw [of_decide_eq_true s, told _ (by omega) (by omega)]; exact decide_eq_true rfl
    · rw [if_neg h2] at s ⊢
      by_cases h18 : i ≤ 18
      · rw [if_pos h18] at s ⊢
        rw [of_decide_eq_true s, told _ (by omega) (by omega)]; exact decide_eq_true rfl
      · rw [if_neg h18] at s ⊢
        exact s
end
end Go.Proofs.Ytadhkmplhgcgkaa.World
namespace Go.Proofs.Ytadhkmplhgcgkaa.World
open Go.RowKit Go.Proofs.Ytadhkmplhgcgkaa.Plain
set_option linter.unusedVariables false
theorem objs_map (a : List Int) (F : List PV) : objsOf (F.map (canV a)) = (objsOf F).map (fA a) := by
  unfold objsOf
  induction F with
  | nil => rfl
  | cons v F ih =>
    rw [List.map_cons]
    unfold canV
    by_cases h : v.obj = true
    · rw [if_pos h, List.filter_cons_of_pos rfl, List.filter_cons_of_pos h, List.map_cons, List.map_cons, List.map_cons]
      congr 1
    · rw [if_neg h, List.filter_cons_of_neg h, List.filter_cons_of_neg h]
      exact ih
theorem inR_told {R : PR} {x : Int} (f : Int → Int) (h : InR R x) : InR (toldR f R) (toldN f x) := by
  rcases h with h | h | h | h | ⟨p, hp, h⟩
  · subst h; exact .inl rfl
  · subst h; exact .inr (.inl rfl)
  · exact .inr (.inr (.inl (List.mem_map.2 ⟨x, h, rfl⟩)))
  · exact .inr (.inr (.inr (.inl (List.mem_map.2 ⟨x, h, rfl⟩))))
  · refine .inr (.inr (.inr (.inr ⟨toldP f p, List.mem_map.2 ⟨p, hp, rfl⟩, ?_⟩)))
    rcases h with h | h
    · subst h; exact .inl rfl
    · subst h; exact .inr rfl
section
variable {W : PW} {l : List Bool}
theorem can_come (h : CanW W l) {i : Nat} (hr : Rch (nxW W true) (rootsOf W.R) i) : Rch (nxW (canonW W l) true) (rootsOf (canonW W l).R) (rankL l i) := by
  induction hr with
  | @root r hm =>
    by_cases h23 : r < 23
    · have r0 := (roots_in h.chk r hm).1
      rw [rank_first l h.first _ (by omega)]
      exact rch_root (by omega)
    · unfold rootsOf at hm
      rcases List.mem_append.1 hm with q | q
      · unfold upTo at q
        obtain ⟨k, hk, rfl⟩ := List.mem_map.1 q
        have := List.mem_range.1 hk
        omega
      · obtain ⟨q1, q2⟩ := List.mem_filter.1 q
        have ir := listOf_in r q1
        have tr : thereB W r = true := by
          have lv := root_live h.chk r (by unfold rootsOf; exact hm)
          unfold thereB
          rw [lv, decide_eq_false (by omega)]; rfl
        obtain ⟨e1, e2, e3⟩ := can_there h ir tr
        obtain ⟨a1, a2⟩ := h.reg ir tr
        have ic : InR (canonW W l).R (rankL l r.toNat : Int) := by rw [← e1]; exact inR_told _ ir
        have ge : 23 ≤ rankL l r.toNat := by
          have := rank_mono l 23 r.toNat (by omega) (Nat.le_of_lt (sB_lt a2))
          rw [rank_first l h.first 23 (Nat.le_refl _)] at this
          exact this
        have m : (rankL l r.toNat : Int) ∈ rootsOf (canonW W l).R := by
          unfold rootsOf
          exact List.mem_append_right _ (List.mem_filter.2 ⟨mem_listOf ic (by omega), decide_eq_true (by omega)⟩)
        have z := Rch.root (nx := nxW (canonW W l) true) m
        rw [Int.toNat_natCast] at z
        exact z
  | @step i j hr hj ih =>
    have hs := h.sb hr
    obtain ⟨j0, js⟩ := h.next hs hj
    have m : fA (atL l) j ∈ nxW (canonW W l) true (rankL l i) := by
      unfold nxW
      rw [h.at_ hs]
      unfold nxW nextsOf at hj
      unfold nextsOf
      show fA (atL l) j ∈ fA (atL l) (tAt W.L i).cls :: (if goesOn true (tAt W.L i) = true then objsOf ((tAt W.L i).F.map (canV (atL l))) else [])
      rcases List.mem_cons.1 hj with q | q
      · rw [q]; exact List.mem_cons_self
      · by_cases g : goesOn true (tAt W.L i) = true
        · rw [if_pos g] at q ⊢
          rw [objs_map]
          exact List.mem_cons_of_mem _ (List.mem_map.2 ⟨j, q, rfl⟩)
        · rw [if_neg g] at q; cases q
    have z := Rch.step ih m
    rw [fA_rank l j j0 js, Int.toNat_natCast] at z
    exact z
theorem can_all (h : CanW W l) {l' : List Bool} (hl : RchL (canonW W l).L.length (nxW (canonW W l) true) (rootsOf (canonW W l).R) l') : l' = List.replicate (canonW W l).L.length true :=
  rch_all (can_check h) (fun q hq => by
    rw [h.clen] at hq
    obtain ⟨i, hi, hs, hr⟩ := h.some hq
    rw [← hr]
    exact can_come h ((h.rch.2 i).1 hs)) hl
end
/-! ### where all is come to, the canon is the world itself -/
theorem rank_rep (n : Nat) : ∀ i, i ≤ n → rankL (List.replicate n true) i = i := by
  intro i
  induction i with
  | zero => intro _; rfl
  | succ i ih =>
    intro hi
    have hs : sB (List.replicate n true) i = true := by
      unfold sB; rw [List.getD_eq_getElem?_getD, List.getElem?_replicate, if_pos (by omega)]; rfl
    rw [rankL_succ _ i (by simp; omega), ih (by omega), if_pos hs]
theorem fA_rep (n : Nat) (x : Int) (h0 : 0 ≤ x) (h1 : x < n) : fA (atL (List.replicate n true)) x = x := by
  have hs : sB (List.replicate n true) x.toNat = true := by
    unfold sB; rw [List.getD_eq_getElem?_getD, List.getElem?_replicate, if_pos (by omega)]; rfl
  rw [fA_rank _ x h0 hs, rank_rep n _ (by omega)]; omega
theorem toldN_rep (n : Nat) (x : Int) (h : x = 0 ∨ (0 ≤ x ∧ x < n)) : toldN (fA (atL (List.replicate n true))) x = x := by
  unfold toldN
  by_cases e : x = 0
  · rw [if_pos e]; exact e.symm
  · rw [if_neg e]
    rcases h with h | h
    · exact absurd h e
    · exact fA_rep n x h.1 h.2
theorem map_self {α : Type} (f : α → α) (L : List α) (h : ∀ x ∈ L, f x = x) : L.map f = L := by
  rw [List.map_congr_left h]; exact List.map_id' L
theorem canT_self {W : PW} (h : checkB W = true) {i : Nat} (hi : i < W.L.length) : canT (atL (List.replicate W.L.length true)) (tAt W.L i) = tAt W.L i := by
  obtain ⟨hc, hs⟩ := check_thing h hi
  have hF : (tAt W.L i).F.map (canV (atL (List.replicate W.L.length true))) = (tAt W.L i).F := by
    refine map_self _ _ (fun v hv => ?_)
    unfold canV
    by_cases ho : v.obj = true
    · rw [if_pos ho]
      obtain ⟨p, hp, e⟩ := List.mem_iff_getElem.1 hv
      have ev : vAt (tAt W.L i).F p = v := by unfold vAt; rw [List.getD_eq_getElem?_getD, List.getElem?_eq_getElem hp, e]; rfl
      unfold shapeB at hs
      by_cases f3 : (tAt W.L i).fmt = 3
      · rw [if_pos f3, Bool.and_eq_true, decide_eq_true_eq] at hs; omega
      · rw [if_neg f3] at hs
        by_cases f12 : (tAt W.L i).fmt = 1 ∨ (tAt W.L i).fmt = 2
        · rw [if_pos f12] at hs
          simp only [Bool.and_eq_true] at hs
          have f := (allTo_iff _ _).1 (show allTo (fun j => fldB W.L.length (vAt (tAt W.L i).F j)) (tAt W.L i).F.length = true from hs.2.2) p hp
          rw [ev] at f
          unfold fldB at f
          rw [if_pos ho, decide_eq_true_eq] at f
          rw [fA_rep _ _ f.1 f.2]
          obtain ⟨o, n⟩ := v
          simp only at ho
          rw [ho]
        · rw [if_neg f12] at hs; cases hs
    · rw [if_neg ho]
  unfold canT
  rw [hF, fA_rep _ _ hc.1 hc.2]
theorem canon_self {W : PW} (h : checkB W = true) : canonW W (List.replicate W.L.length true) = { W with dead := [] } := by
  have hL : canK W (List.replicate W.L.length true) W.L.length = W.L := by
    unfold canK
    have hf : (List.range W.L.length).filter (fun j => sB (List.replicate W.L.length true) j) = List.range W.L.length := by
      rw [List.filter_eq_self]
      intro j hj
      have := List.mem_range.1 hj
      unfold sB; rw [List.getD_eq_getElem?_getD, List.getElem?_replicate, if_pos this]; rfl
    rw [hf]
    refine List.ext_getElem? (fun q => ?_)
    rw [List.getElem?_map]
    by_cases hq : q < W.L.length
    · rw [List.getElem?_range hq]
      show some (canT _ (tAt W.L q)) = _
      rw [canT_self h hq]
      unfold tAt
      rw [List.getD_eq_getElem?_getD, List.getElem?_eq_getElem hq]; rfl
    · rw [List.getElem?_eq_none (by simpa using hq), List.getElem?_eq_none (by omega)]; rfl
  have hg := check_regs h
  unfold regsB at hg
  simp only [Bool.and_eq_true, Bool.or_eq_true, decide_eq_true_eq] at hg
  obtain ⟨g1, g2, g3, g4, _, g6, _⟩ := hg
  have ok : ∀ x, (x = 0 ∨ thereB W x = true) → toldN (fA (atL (List.replicate W.L.length true))) x = x := fun x hx => toldN_rep _ x (hx.imp id there_in)
  have hR : toldR (fA (atL (List.replicate W.L.length true))) W.R = W.R := by
    unfold toldR
    rw [ok _ g1, ok _ g2, map_self _ _ (fun x hx => ok x (.inr (thereL_all g3 x hx))), map_self _ _ (fun x hx => ok x (.inr (thereL_all g4 x hx)))]
    rw [map_self (toldP _) W.R.wait (fun p hp => by
      unfold waitB at g6
      obtain ⟨q, hq, hqv⟩ := List.mem_iff_getElem.1 hp
      have f := (allTo_iff _ _).1 g6 q hq
      unfold wAt at f
      rw [List.getD_eq_getElem?_getD, List.getElem?_eq_getElem hq, hqv] at f
      rw [Bool.and_eq_true] at f
      unfold toldP
      rw [ok p.1 (.inr f.1), ok p.2 (.inr f.2)])]
  unfold canonW
  rw [hL, hR]
/-- canonical twice is once -/
theorem canon_twice {W : PW} {l l' : List Bool} (h : CanW W l) (hl : RchL (canonW W l).L.length (nxW (canonW W l) true) (rootsOf (canonW W l).R) l') : canonW (canonW W l) l' = canonW W l := by
  rw [can_all h hl, canon_self (can_check h)]; rfl
end Go.Proofs.Ytadhkmplhgcgkaa.World
