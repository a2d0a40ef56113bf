/-
  HeapPlays (chapter 5), plain: an object is made, goes, is turned.
-/
import Derived.Test.YtjpalcejmloocaaPlaysPlain
namespace Go.Proofs.Ytjpalcejmloocaa.Heap
open Go.RowKit Go.Proofs.Ytjpalcejmloocaa.Plain Go.Proofs.Ytjpalcejmloocaa.Free
set_option linter.unusedVariables false
section
variable {S S' : List Int} {L L' : List Run} {Bg : List Bool} {is is' : List Bool} {A B O : List PO} {o o' : PO}
theorem HR.free_in (h : HR (A ++ o :: B) S L Bg is) (x : Int) (h1 : (o.k : Int) ≤ x) (h2 : x < (o.k : Int) + (3 + o.W)) : ¬ Free.has L x := by
  obtain ⟨k, q⟩ := h.mid
  have hf := q.fit
  obtain ⟨n, rfl⟩ := Int.eq_ofNat_of_zero_le (show 0 ≤ x by omega)
  intro hh
  exact (h.words n (by omega)).1 hh o (by simp) ⟨by omega, by omega⟩
theorem HR.giveok (h : HR (A ++ o :: B) S L Bg is) : GiveOk L S.length o.k (3 + o.W) := by
  obtain ⟨k, q⟩ := h.mid
  have hf := q.fit
  exact ⟨by omega, by omega, by omega, fun x h1 h2 => h.free_in x h1 h2⟩
theorem HR.drop (h : HR (A ++ o :: B) S L Bg is) (hc : Free.Can 0 L') (hh : ∀ x, Free.has L' x ↔ Free.has L x ∨ ((o.k : Int) ≤ x ∧ x < (o.k : Int) + (3 + o.W))) : HR (A ++ B) (S.set o.k 0) L' (Bg.set (o.k + 1) false) (clr is o.k true (3 + o.W)) := by
  obtain ⟨sa, sb⟩ := h.sides
  obtain ⟨kk, q⟩ := h.mid
  have hf := q.fit
  have sub : ∀ o' ∈ A ++ B, o' ∈ A ++ o :: B := by
    intro o' ho'
    rcases List.mem_append.1 ho' with h1 | h1
    · exact List.mem_append_left _ h1
    · exact List.mem_append_right _ (List.mem_cons_of_mem _ h1)
  have far : ∀ o' ∈ A ++ B, o'.k + 3 + o'.W ≤ o.k ∨ o.k + 3 + o.W ≤ o'.k := by
    intro o' ho'
    rcases List.mem_append.1 ho' with h1 | h1
    · exact .inl (sa o' h1)
    · exact .inr (sb o' h1)
  refine ⟨by rw [List.length_set, List.length_set]; exact h.blen, by rw [clr_len, List.length_set]; exact h.isl, h.fr.give hc ?_ (fun x => by rw [hh, show ((3 + o.W : Nat) : Int) = 3 + (o.W : Int) by omega]), fun p hp => ?_, fun x hx => ?_, ?_, fun j hj => ?_⟩
  · exact upto_of hc hh (by rw [h.isl]; have := h.fr.up; rw [h.isl] at this; exact this) (by rw [h.isl]; omega)
  · obtain ⟨q1, q2⟩ := h.obj p (sub p hp)
    have f := far p hp
    exact ⟨q1, q2.out q1 (List.length_set ..) (fun y hy => set_out _ _ _ _ (by have := hy.1; have := hy.2; omega)) (bset_out _ _ _ _ (by omega))⟩
  · rw [List.length_set] at hx
    rw [hh, h.words x hx]
    constructor
    · rintro (h1 | h1) p hp hx'
      · exact h1 p (sub p hp) hx'
      · have := far p hp; have := hx'.1; have := hx'.2; omega
    · intro h1
      by_cases h2 : inP o x
      · exact .inr ⟨by have := h2.1; omega, by have := h2.2; omega⟩
      · refine .inl fun p hp => ?_
        rcases List.mem_append.1 hp with h3 | h3
        · exact h1 p (List.mem_append_left _ h3)
        · rcases List.mem_cons.1 h3 with rfl | h3
          · exact h2
          · exact h1 p (List.mem_append_right _ h3)
  · have p := h.apart
    rw [List.pairwise_append, List.pairwise_cons] at p
    rw [List.pairwise_append]
    exact ⟨p.1, p.2.1.2, fun a ha b hb => p.2.2 a ha b (List.mem_cons_of_mem _ hb)⟩
  · by_cases e : o.k + 1 = j
    · subst e
      rw [bset_in _ _ _ (by have := h.blen; omega)] at hj
      cases hj
    · rw [bset_out _ _ _ _ e] at hj
      obtain ⟨p, hp, rfl⟩ := h.beg j hj
      refine ⟨p, ?_, rfl⟩
      rcases List.mem_append.1 hp with h3 | h3
      · exact List.mem_append_left _ h3
      · rcases List.mem_cons.1 h3 with rfl | h3
        · exact absurd rfl e
        · exact List.mem_append_right _ h3
theorem split_k (k : Nat) : ∀ O : List PO, O.Pairwise (fun a b => a.k + 3 + a.W ≤ b.k) → (∀ o ∈ O, o.k ≠ k) → ∃ A B, O = A ++ B ∧ (∀ a ∈ A, a.k < k) ∧ (∀ b ∈ B, k < b.k)
  | [], _, _ => ⟨[], [], rfl, fun a h => (by cases h), fun b h => (by cases h)⟩
  | c :: O, hp, hn => by
    rw [List.pairwise_cons] at hp
    by_cases hc : c.k < k
    · obtain ⟨A, B, e, h1, h2⟩ := split_k k O hp.2 (fun o ho => hn o (List.mem_cons_of_mem _ ho))
      refine ⟨c :: A, B, by rw [e]; rfl, fun a ha => ?_, h2⟩
      rcases List.mem_cons.1 ha with rfl | ha
      · exact hc
      · exact h1 a ha
    · have h0 := hn c List.mem_cons_self
      refine ⟨[], c :: O, rfl, fun a ha => (by cases ha), fun b hb => ?_⟩
      rcases List.mem_cons.1 hb with rfl | hb
      · omega
      · have := hp.1 b hb; omega
/-- where there is room: what is taken lies in no object -/
theorem HR.room (h : HR O S L Bg is) {n : Int} {b k : Nat} (hn : 1 ≤ n) (hb : bst L n L.length = some b) (hk : (nth L b).1 = (k : Int)) : (k : Int) + n ≤ S.length ∧ ∀ o ∈ O, o.k + 3 + o.W ≤ k ∨ (k : Int) + n ≤ o.k := by
  have hbl := bst_lt L _ _ _ hb
  have hge := bst_ge L _ _ _ hb
  have hm := nth_mem L b hbl
  have hu := h.fr.up _ hm
  rw [h.isl] at hu
  refine ⟨by omega, fun c hc => ?_⟩
  have out : ∀ x : Nat, k ≤ x → (x : Int) < (k : Int) + n → ¬ inP c x := fun x h1 h2 => (h.words x (by omega)).1 ⟨_, hm, by omega, by omega⟩ c hc
  rcases Nat.lt_or_ge k c.k with h1 | h1
  · by_cases h2 : (c.k : Int) < (k : Int) + n
    · exact absurd ⟨Nat.le_refl _, by omega⟩ (out c.k (by omega) h2)
    · exact .inr (by omega)
  · by_cases h2 : k < c.k + 3 + c.W
    · exact absurd ⟨h1, h2⟩ (out k (Nat.le_refl _) (by omega))
    · exact .inl (by omega)
theorem HR.make (h : HR O S L Bg is) {b : Nat} (hb : bst L (3 + (o.W : Int)) L.length = some b) (hk : (nth L b).1 = (o.k : Int)) (ok : POk o) (at' : PAt S' (Bg.set (o.k + 1) true) o) (hl : S'.length = S.length) (hS : ∀ q, ¬ inP o q → S'.getD q 0 = S.getD q 0) :
    ∃ A B, O = A ++ B ∧ (∀ a ∈ A, a.k < o.k) ∧ (∀ b ∈ B, o.k < b.k) ∧ HR (A ++ o :: B) S' (takeAt L b (3 + (o.W : Int))) (Bg.set (o.k + 1) true) (clr is o.k false (3 + o.W)) := by
  obtain ⟨room, far⟩ := h.room (by omega) hb hk
  have hbl := bst_lt L _ _ _ hb
  have hge := bst_ge L _ _ _ hb
  obtain ⟨A, B, rfl, hA, hB⟩ := split_k o.k O h.apart (fun c hc => by have := far c hc; omega)
  have th := takeAt_has L b 0 (3 + (o.W : Int)) h.fr.can hbl (by omega) hge
  have tc := takeAt_can L b 0 (3 + (o.W : Int)) h.fr.can hbl (by omega) hge
  have tu := takeAt_upto L b 0 (3 + (o.W : Int)) h.fr.can hbl (by omega) hge h.fr.up
  rw [hk] at th
  refine ⟨A, B, rfl, hA, hB, by rw [List.length_set, hl]; exact h.blen, by rw [clr_len, hl]; exact h.isl, h.fr.take tc tu (fun x => by rw [th, show ((3 + o.W : Nat) : Int) = 3 + (o.W : Int) by omega]), fun p hp => ?_, fun x hx => ?_, ?_, fun j hj => ?_⟩
  · have other : ∀ p ∈ A ++ B, POk p ∧ PAt S' (Bg.set (o.k + 1) true) p := by
      intro p hp
      obtain ⟨q1, q2⟩ := h.obj p hp
      have f := far p hp
      exact ⟨q1, q2.out q1 hl (fun q hq => hS q (fun hq2 => by have := hq.1; have := hq.2; have := hq2.1; have := hq2.2; omega)) (bset_out _ _ _ _ (by omega))⟩
    rcases List.mem_append.1 hp with h1 | h1
    · exact other p (List.mem_append_left _ h1)
    · rcases List.mem_cons.1 h1 with rfl | h1
      · exact ⟨ok, at'⟩
      · exact other p (List.mem_append_right _ h1)
  · rw [hl] at hx
    rw [th, h.words x hx]
    constructor
    · rintro ⟨h1, h2⟩ p hp
      rcases List.mem_append.1 hp with h3 | h3
      · exact h1 p (List.mem_append_left _ h3)
      · rcases List.mem_cons.1 h3 with rfl | h3
        · intro hx'; exact h2 ⟨by have := hx'.1; omega, by have := hx'.2; omega⟩
        · exact h1 p (List.mem_append_right _ h3)
    · intro h1
      refine ⟨fun p hp => ?_, fun h2 => h1 o (by simp) ⟨by omega, by omega⟩⟩
      rcases List.mem_append.1 hp with h3 | h3
      · exact h1 p (List.mem_append_left _ h3)
      · exact h1 p (List.mem_append_right _ (List.mem_cons_of_mem _ h3))
  · have p := h.apart
    rw [List.pairwise_append] at p
    rw [List.pairwise_append, List.pairwise_cons]
    refine ⟨p.1, ⟨fun c hc => ?_, p.2.1⟩, fun a ha c hc => ?_⟩
    · have := far c (List.mem_append_right _ hc); have := hB c hc; omega
    · rcases List.mem_cons.1 hc with rfl | hc
      · have := far a (List.mem_append_left _ ha); have := hA a ha; omega
      · exact p.2.2 a ha c hc
  · by_cases e : o.k + 1 = j
    · exact ⟨o, by simp, e.symm⟩
    · rw [bset_out _ _ _ _ e] at hj
      obtain ⟨p, hp, e2⟩ := h.beg j hj
      refine ⟨p, ?_, e2⟩
      rcases List.mem_append.1 hp with h3 | h3
      · exact List.mem_append_left _ h3
      · exact List.mem_append_right _ (List.mem_cons_of_mem _ h3)
/-! ### what is made -/
theorem made_plain_at (k W : Nat) (fmt cls hash : Int) (hf : fmt = 1 ∨ fmt = 2) (hfit : k + 3 + W ≤ S.length) (hl : Bg.length = S.length + 1) : PAt (made S k W fmt 0 cls hash (intW 0)) (Bg.set (k + 1) true) ⟨k, W, fmt, cls, hash, List.replicate W (intW 0), [], 0, false⟩ := by
  refine ⟨by rw [made_len']; exact hfit, bset_in _ _ _ (by omega), ?_, made_1 _ _ _ _ _ _ _ _ (by omega), made_2 _ _ _ _ _ _ _ _ (by omega), fun j hj => ?_, fun j hj => by simp at hj⟩
  · show (made S k W fmt 0 cls hash (intW 0)).getD k 0 = _
    rw [made_0 _ _ _ _ _ _ _ _ (by omega)]
    unfold PO.w0 PO.odd
    simp only
    rw [if_neg (by omega)]
  · simp only [List.length_replicate] at hj
    show (made S k W fmt 0 cls hash (intW 0)).getD (k + 3 + j) 0 = _
    rw [made_3 _ _ _ _ _ _ _ _ j hj (by omega), List.getD_eq_getElem?_getD, List.getElem?_replicate, if_pos hj]; rfl
theorem made_bytes_at (k W n : Nat) (cls hash : Int) (hW : W = (n + 3) / 4) (hfit : k + 3 + W ≤ S.length) (hl : Bg.length = S.length + 1) : PAt (made S k W 3 ((W : Int) * 4 - n) cls hash 0) (Bg.set (k + 1) true) ⟨k, W, 3, cls, hash, [], List.replicate n 0, 0, false⟩ := by
  refine ⟨by rw [made_len']; exact hfit, bset_in _ _ _ (by omega), ?_, made_1 _ _ _ _ _ _ _ _ (by omega), made_2 _ _ _ _ _ _ _ _ (by omega), fun j hj => by simp at hj, fun j hj => ?_⟩
  · show (made S k W 3 ((W : Int) * 4 - n) cls hash 0).getD k 0 = _
    rw [made_0 _ _ _ _ _ _ _ _ (by omega)]
    unfold PO.w0 PO.odd
    simp only [List.length_replicate, if_true]
  · simp only [List.length_replicate] at hj
    show (made S k W 3 ((W : Int) * 4 - n) cls hash 0).getD (k + 3 + j / 4) 0 / _ % 256 = _
    rw [made_3 _ _ _ _ _ _ _ _ (j / 4) (by omega) (by omega), List.getD_eq_getElem?_getD, List.getElem?_replicate, if_pos hj, Int.zero_ediv]; rfl
theorem made_stays (k W : Nat) (fmt odd cls hash x : Int) (o : PO) (hk : o.k = k) (hW : o.W = W) (q : Nat) (hq : ¬ inP o q) : (made S k W fmt odd cls hash x).getD q 0 = S.getD q 0 := by
  refine made_out' _ _ _ _ _ _ _ _ _ ?_
  unfold inP at hq
  rw [hk, hW] at hq
  omega
/-! ### one turn -/
theorem HR.field (h : HR (A ++ o :: B) S L Bg is) (j : Nat) (hj : j < o.F.length) (x : Int) (hx : 0 ≤ x ∧ x < 4294967296) : HR (A ++ { o with F := o.F.set j x } :: B) (S.set (o.k + 3 + j) x) L Bg is := by
  obtain ⟨k, q⟩ := h.mid
  have hF : o.B = [] ∧ o.F.length = o.W := by
    rcases k.f with ⟨a, b, c, d⟩ | ⟨a, b, c, d⟩
    · rw [b] at hj; simp at hj
    · exact ⟨b, c⟩
  have hf := q.fit
  refine h.upd (o' := { o with F := o.F.set j x }) rfl rfl ⟨?_, k.c, k.h, k.m, fun y hy => ?_, k.bw⟩ ⟨by rw [List.length_set]; exact hf, q.beg, ?_, ?_, ?_, fun t ht => ?_, fun t ht => ?_⟩ (List.length_set ..) (fun y hy => set_out _ _ _ _ (fun e => hy (by unfold inP; omega)))
  · rcases k.f with ⟨a, b, c, d⟩ | ⟨a, b, c, d⟩
    · rw [b] at hj; simp at hj
    · exact .inr ⟨a, b, by simpa using c, d⟩
  · rcases List.mem_or_eq_of_mem_set hy with h1 | h1
    · exact k.fw y h1
    · rw [h1]; exact hx
  · show (S.set _ x).getD o.k 0 = _
    rw [set_out _ _ _ _ (by omega)]; exact q.w0
  · show (S.set _ x).getD (o.k + 1) 0 = _
    rw [set_out _ _ _ _ (by omega)]; exact q.w1
  · show (S.set _ x).getD (o.k + 2) 0 = _
    rw [set_out _ _ _ _ (by omega)]; exact q.w2
  · simp only [List.length_set] at ht
    show (S.set (o.k + 3 + j) x).getD (o.k + 3 + t) 0 = (o.F.set j x).getD t 0
    by_cases e : j = t
    · subst e
      rw [set_in _ _ _ (by omega), set_in _ _ _ hj]
    · rw [set_out _ _ _ _ (by omega), set_out _ _ _ _ e]; exact q.fld t ht
  · exfalso
    have : t < o.B.length := ht
    rw [hF.1] at this; simp at this
theorem HR.byte (h : HR (A ++ o :: B) S L Bg is) (hw : ∀ x ∈ S, 0 ≤ x ∧ x < 4294967296) (j : Nat) (hj : j < o.B.length) (u : Int) : HR (A ++ { o with B := o.B.set j (u % 256) } :: B) (S.set (o.k + 3 + j / 4) (setV (S.getD (o.k + 3 + j / 4) 0) (j % 4) u)) L Bg is := by
  obtain ⟨k, q⟩ := h.mid
  have hF : o.F = [] ∧ o.B.length ≤ o.W * 4 ∧ o.fmt = 3 := by
    rcases k.f with ⟨a, b, c, d⟩ | ⟨a, b, c, d⟩
    · exact ⟨b, by omega, a⟩
    · rw [b] at hj; simp at hj
  have hf := q.fit
  have hx : 0 ≤ S.getD (o.k + 3 + j / 4) 0 ∧ S.getD (o.k + 3 + j / 4) 0 < 4294967296 := by
    rw [List.getD_eq_getElem?_getD, List.getElem?_eq_getElem (by omega)]
    exact hw _ (List.getElem_mem ..)
  refine h.upd (o' := { o with B := o.B.set j (u % 256) }) rfl rfl ⟨?_, k.c, k.h, k.m, k.fw, fun y hy => ?_⟩ ⟨by rw [List.length_set]; exact hf, q.beg, ?_, ?_, ?_, fun t ht => ?_, fun t ht => ?_⟩ (List.length_set ..) (fun y hy => set_out _ _ _ _ (fun e => hy (by unfold inP; omega)))
  · rcases k.f with ⟨a, b, c, d⟩ | ⟨a, b, c, d⟩
    · exact .inl ⟨a, b, by simpa using c, by simpa using d⟩
    · rw [b] at hj; simp at hj
  · rcases List.mem_or_eq_of_mem_set hy with h1 | h1
    · exact k.bw y h1
    · rw [h1]; omega
  · show (S.set _ _).getD o.k 0 = _
    rw [set_out _ _ _ _ (by omega), q.w0]
    unfold PO.w0 PO.odd
    simp only [List.length_set]
  · show (S.set _ _).getD (o.k + 1) 0 = _
    rw [set_out _ _ _ _ (by omega)]; exact q.w1
  · show (S.set _ _).getD (o.k + 2) 0 = _
    rw [set_out _ _ _ _ (by omega)]; exact q.w2
  · exfalso
    have : t < o.F.length := ht
    rw [hF.1] at this; simp at this
  · simp only [List.length_set] at ht
    show (S.set (o.k + 3 + j / 4) _).getD (o.k + 3 + t / 4) 0 / 256 ^ (t % 4) % 256 = (o.B.set j (u % 256)).getD t 0
    by_cases e : j / 4 = t / 4
    · rw [← e, set_in _ _ _ (by omega), setV_get _ _ _ _ (by omega) (by omega) hx.1 hx.2]
      by_cases e2 : t % 4 = j % 4
      · obtain rfl : j = t := by omega
        rw [if_pos rfl, set_in _ _ _ hj]
      · rw [if_neg e2, set_out _ _ _ _ (by rintro rfl; exact e2 rfl), e]; exact q.byt t ht
    · rw [set_out _ _ _ _ (by omega), set_out _ _ _ _ (by rintro rfl; exact e rfl)]; exact q.byt t ht
theorem HR.clas (h : HR (A ++ o :: B) S L Bg is) (c : Int) (c0 : 0 ≤ c) (c1 : c ≤ 65536) : HR (A ++ { o with cls := c } :: B) (S.set (o.k + 1) (refW c)) L Bg is := by
  obtain ⟨k, q⟩ := h.mid
  have hf := q.fit
  refine h.upd (o' := { o with cls := c }) rfl rfl ⟨k.f, ⟨c0, c1⟩, k.h, k.m, k.fw, k.bw⟩ ⟨by rw [List.length_set]; exact hf, q.beg, ?_, ?_, ?_, fun t ht => ?_, fun t ht => ?_⟩ (List.length_set ..) (fun y hy => set_out _ _ _ _ (fun e => hy (by unfold inP; omega)))
  · show (S.set _ _).getD o.k 0 = _
    rw [set_out _ _ _ _ (by omega)]; exact q.w0
  · exact set_in _ _ _ (by omega)
  · show (S.set _ _).getD (o.k + 2) 0 = _
    rw [set_out _ _ _ _ (by omega)]; exact q.w2
  · show (S.set _ _).getD (o.k + 3 + t) 0 = _
    rw [set_out _ _ _ _ (by omega)]; exact q.fld t ht
  · show (S.set _ _).getD (o.k + 3 + t / 4) 0 / _ % 256 = _
    rw [set_out _ _ _ _ (by omega)]; exact q.byt t ht
theorem HR.mark (h : HR (A ++ o :: B) S L Bg is) (c : Int) (f : Bool) (c0 : 0 ≤ c) (c1 : c ≤ 2) : HR (A ++ { o with col := c, fin := f } :: B) (S.set o.k (putN (gotS o.w0) (gotF o.w0) (gotO o.w0) c f (gotL o.w0))) L Bg is := by
  obtain ⟨k, q⟩ := h.mid
  have hf := q.fit
  obtain ⟨g1, g2, g3, g4, g5, g6⟩ := k.got
  rw [g1, g2, g3, g6]
  refine h.upd (o' := { o with col := c, fin := f }) rfl rfl ⟨k.f, k.c, k.h, ⟨c0, c1⟩, k.fw, k.bw⟩ ⟨by rw [List.length_set]; exact hf, q.beg, ?_, ?_, ?_, fun t ht => ?_, fun t ht => ?_⟩ (List.length_set ..) (fun y hy => set_out _ _ _ _ (fun e => hy (by unfold inP; omega)))
  · exact set_in _ _ _ (by omega)
  · show (S.set _ _).getD (o.k + 1) 0 = _
    rw [set_out _ _ _ _ (by omega)]; exact q.w1
  · show (S.set _ _).getD (o.k + 2) 0 = _
    rw [set_out _ _ _ _ (by omega)]; exact q.w2
  · show (S.set _ _).getD (o.k + 3 + t) 0 = _
    rw [set_out _ _ _ _ (by omega)]; exact q.fld t ht
  · show (S.set _ _).getD (o.k + 3 + t / 4) 0 / _ % 256 = _
    rw [set_out _ _ _ _ (by omega)]; exact q.byt t ht
/-! ### the next one -/
def nextO (O : List PO) (at_ : Int) : Int := match O.find? (fun o => decide (at_ < (o.k : Int) + 1)) with
  | some o => (o.k : Int) + 1
  | none => 0
theorem HR.next (h : HR O S L Bg is) (at_ : Int) (k0 : Nat) (hk0 : (if at_ < 0 then 0 else at_) = (k0 : Int)) : (nextN Bg k0 : Int) = nextO O at_ := by
  unfold nextO
  cases hf : O.find? (fun o => decide (at_ < (o.k : Int) + 1)) with
  | none =>
    rw [List.find?_eq_none] at hf
    rw [nextN_zero Bg k0 (fun r hr => ?_)]
    · rfl
    · cases hb : Bg.getD r false with
      | false => rfl
      | true =>
        obtain ⟨o, ho, e⟩ := h.beg r hb
        have := hf o ho
        simp only [decide_eq_true_eq] at this
        exfalso
        split at hk0 <;> omega
  | some o =>
    obtain ⟨hp, A, B, rfl, hA⟩ := List.find?_eq_some_iff_append.1 hf
    simp only [decide_eq_true_eq] at hp
    simp only [Bool.not_eq_true', decide_eq_false_iff_not] at hA
    obtain ⟨sa, sb⟩ := h.sides
    obtain ⟨k, q⟩ := h.mid
    have hl := h.blen
    have hfit := q.fit
    have key : ∀ d k1, o.k - k1 = d → k1 ≤ o.k → (∀ r, k1 < r → r < o.k + 1 → Bg.getD r false = false) → nextN Bg k1 = o.k + 1 := by
      intro d
      induction d with
      | zero =>
        intro k1 h1 h2 h3
        obtain rfl : k1 = o.k := by omega
        exact next_yes Bg o.k (by omega) q.beg
      | succ d ih =>
        intro k1 h1 h2 h3
        rw [next_no Bg k1 (by omega) (h3 (k1 + 1) (by omega) (by omega))]
        exact ih (k1 + 1) (by omega) (by omega) (fun r a b => h3 r (by omega) b)
    rw [key _ k0 rfl (by split at hk0 <;> omega) (fun r h1 h2 => ?_)]
    · rfl
    · cases hb : Bg.getD r false with
      | false => rfl
      | true =>
        exfalso
        obtain ⟨p, hpm, e⟩ := h.beg r hb
        rcases List.mem_append.1 hpm with h3 | h3
        · have := hA p h3; split at hk0 <;> omega
        · rcases List.mem_cons.1 h3 with rfl | h3
          · omega
          · have := sb p h3; omega
end
end Go.Proofs.Ytjpalcejmloocaa.Heap
