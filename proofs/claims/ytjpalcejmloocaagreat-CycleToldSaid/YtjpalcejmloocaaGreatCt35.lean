/-
  Mem6, as one text (a claim has at most 60 files).
-/
import Derived.Test.YtjpalcejmloocaaGreatCt34
import Derived.Test.YtjpalcejmloocaaGreatCt10
namespace Go.Proofs.YtjpalcejmloocaaGreat.World
open Go.RowKit Go.Proofs.YtjpalcejmloocaaGreat.Plain
set_option linter.unusedVariables false
attribute [local go_sem ↓] Go.wp_at_zero Go.wp_at_succ
section
variable {w w' w2 : World} {F F' F2 : Nat → Prop} {m : Nat} {S S' : MS} {X : MX}
theorem newT_len (c f h : Int) (n : Nat) : (MS.newT c f n h).F.length = if f = 3 then 0 else n := by
  unfold MS.newT; split <;> simp
theorem newT_size (c f h : Int) (n : Nat) : (MS.newT c f n h).B.size = if f = 3 then n else 0 := by
  unfold MS.newT; split
  · simp [strOfNums, ByteArray.size]
  · rfl
theorem newT_fmt (c f h : Int) (n : Nat) : (MS.newT c f n h).fmt = f := by unfold MS.newT; split <;> rfl
theorem newT_cls (c f h : Int) (n : Nat) : (MS.newT c f n h).cls = c := by unfold MS.newT; split <;> rfl
theorem newT_hash (c f h : Int) (n : Nat) : (MS.newT c f n h).hash = h := by unfold MS.newT; split <;> rfl
theorem newT_fin (c f h : Int) (n : Nat) : (MS.newT c f n h).fin = false := by unfold MS.newT; split <;> rfl
theorem newT_F (c f h : Int) (n : Nat) (hf : f ≠ 3) : (MS.newT c f n h).F = List.replicate n MS.nilV := by unfold MS.newT; rw [if_neg hf]
theorem newT_F3 (c h : Int) (n : Nat) : (MS.newT c 3 n h).F = [] := rfl
theorem newT_B3 (c h : Int) (n : Nat) : (MS.newT c 3 n h).B = strOfNums (List.replicate n 0) := rfl
theorem vAt_rep (n j : Nat) (v : PV) (h : j < n) : vAt (List.replicate n v) j = v := by
  unfold vAt; rw [List.getD_eq_getElem?_getD, List.getElem?_replicate, if_pos h]; rfl
theorem class_made {i : Int} (hc : S.isClass i = true) : 0 ≤ S.madeN i ∧ S.madeN i ≤ 60 ∧ 1 ≤ S.madeF i ∧ S.madeF i ≤ 3 := by
  have e1 : S.madeN i = (S.field i 3).n := by unfold MS.madeN; rw [if_pos hc]
  have e2 : S.madeF i = (S.field i 4).n := by unfold MS.madeF; rw [if_pos hc]
  unfold MS.isClass MS.sizeOK MS.fmtOK at hc
  simp only [Bool.and_eq_true, decide_eq_true_eq] at hc
  rw [e1, e2]; omega
theorem make_wf (w : S.Wf) {c n : Int} (h : S.makeOK c n = true) : (S.add (MS.newT c (S.madeF c) (S.makeSz c n).toNat (S.last + 1))).Wf := by
  have h0 := h
  unfold MS.makeOK at h
  simp only [Bool.and_eq_true, decide_eq_true_eq] at h
  obtain ⟨h1, h2, h3, h4⟩ := h
  obtain ⟨g1, g2, g3, g4⟩ := class_made h1
  have hl : S.has c = true := by unfold MS.isClass at h1; rw [Bool.and_eq_true] at h1; exact h1.1
  have hl := MS.has_lt hl
  have hlen := w.len
  have hz : (S.makeSz c n).toNat = if S.madeF c = 3 then n.toNat else (S.madeN c + n).toNat := by unfold MS.makeSz; split <;> rfl
  refine MS.add_wf w h4 ?_ ?_ ?_ ?_ ?_ ?_ ?_ ?_
  · rw [newT_fmt]; omega
  · rw [newT_fmt, newT_size]; intro hf; rw [if_neg hf]
  · rw [newT_fmt]; intro hf; rw [hf]; rfl
  · rw [newT_len, hz]; split
    · omega
    · rename_i hf; rw [if_neg hf] at h3; omega
  · rw [newT_size, hz]; split
    · rename_i hf; rw [if_pos hf] at h3; omega
    · omega
  · rw [newT_cls]; exact hl
  · rw [newT_hash]; omega
  · intro j hj
    rw [newT_len] at hj
    split at hj
    · omega
    · rename_i hf
      rw [newT_F _ _ _ _ hf, vAt_rep _ _ _ hj]
      unfold fldB MS.nilV
      simp only [if_true]
      exact decide_eq_true (by have := w.lo; omega)
def addF (F : Nat → Prop) (w w' : World) : Nat → Prop := fun k => F k ∨ (w.heap.size ≤ k ∧ k < w'.heap.size)
theorem inF_add {v v' : Value} (h : InF F v) (hn : ∀ g, v'.ownBlock = some g → v.ownBlock = some g ∨ w.heap.size ≤ g) (hl : ∀ g, v'.ownBlock = some g → g < w'.heap.size) : InF (addF F w w') v' := fun g hg => by
  rcases hn g hg with h1 | h1
  · exact .inl (h g h1)
  · exact .inr ⟨h1, hl g hg⟩
theorem Own.blt {b : Nat} {e : TypeId} {v : Value} {n sz : Nat} {c : Nat → Nat → Value} (h : Own w b e v n sz c) : ∀ g, v.ownBlock = some g → g < w.heap.size := fun g hg => by
  obtain ⟨_, cs, hb⟩ := h.block hg; exact hb.lt
theorem Own.cells {b : Nat} {e : TypeId} {v : Value} {n n' sz : Nat} {c c' : Nat → Nat → Value} (h : Own w b e v n sz c) (hn : n = n') (hc : ∀ i j, i < n → j < sz → c i j = c' i j) : Own w b e v n' sz c' := by subst hn; exact h.congr hc
theorem Apart.new {v v' u : Value} {w : World} (h : Apart v u) (hu : ∀ g, u.ownBlock = some g → g < w.heap.size) (hn : ∀ g, v'.ownBlock = some g → v.ownBlock = some g ∨ w.heap.size ≤ g) : Apart v' u := fun g h1 h2 => by
  rcases hn g h1 with h3 | h3
  · exact h g h3 h2
  · have := hu g h2; omega
/-- New of a world that is turned -/
theorem mnew (h : M w F m S) (c f : Int) (k : Nat) (hk : k ≤ 1000) (hw : (S.add (MS.newT c f k (S.last + 1))).Wf) : ∃ bt, w.cell? ⟨m, 0, none⟩ = some (.iface 70 (.pointer (some ⟨bt, 0, none⟩))) ∧ m < w.heap.size ∧ ∀ W [IsExt w W], Calls Tryz.prog 178 #[.pointer (some ⟨bt, 0, none⟩), .int .i64 c, .int .i64 f, .int .i64 k, .int .i64 (S.last + 1)] W fun e w' => e = .returned (.tuple #[.int .i64 S.L.length, .bool true]) ∧ (∃ X, Blk w' m 56 (cellsM S X)) ∧ Goes F m (S.add (MS.newT c f k (S.last + 1))) W (w'.setCell ⟨m, 11, none⟩ (.int .i64 (S.last + 1))) := by
  obtain ⟨X, h⟩ := h
  obtain ⟨q1, _, q3⟩ := h.bm.rules
  have hlen := h.wf.len
  have hlast := h.wf.last
  have hdl := h.wf.dead
  have hcl := h.wf.col
  refine ⟨X.bt, q1 0, q3, fun W x => ?_⟩
  have H := h.ext x.out
  have hD := H.ts.dead
  have hC := H.ts.col
  rw [hdl] at hD
  rw [hcl] at hC
  refine (tnew H.ts.bt H.ts.L hD hC (by omega) c f (S.last + 1) k hk).mono ?_
  rintro e w' ⟨rfl, vl', vd', vc', vF, b', L', D', C', V', nl, nd, nc, kp⟩
  have kF : Keep F W w' := kp.mono (fun g hg => by
    rcases hg with rfl | hg | hg | hg
    · exact H.ts.bF
    · exact H.ts.LF g hg
    · exact H.ts.dF g hg
    · exact H.ts.colF g hg)
  -- the blocks that are none of the lists stay
  have nb : ∀ {g : Nat} {t : TypeId} {cs : Array Value}, Blk W g t cs → t ≠ 72 → t ≠ 49 → t ≠ 4 → X.vc.ownBlock ≠ some g → Blk w' g t cs := by
    intro g t cs hb h1 h2 h3 h4
    refine hb.keep kp ?_
    rintro (rfl | hg | hg | hg)
    · exact hb.ne H.ts.bt h1 rfl
    · obtain ⟨_, cs', hb'⟩ := H.ts.L.block hg; exact hb.ne hb' h2 rfl
    · obtain ⟨_, cs', hb'⟩ := H.ts.dead.block hg; exact hb.ne hb' h3 rfl
    · exact h4 hg
  have nbc : ∀ {g : Nat} {t : TypeId} {cs : Array Value}, Blk W g t cs → t ≠ 3 → X.vc.ownBlock ≠ some g := by
    intro g t cs hb ht hg
    obtain ⟨_, cs', hb'⟩ := H.ts.col.block hg; exact hb.ne hb' ht rfl
  have own : ∀ {b n sz : Nat} {t : TypeId} {v : Value} {c : Nat → Nat → Value}, Own W b t v n sz c → t ≠ 72 → t ≠ 49 → t ≠ 4 → Apart X.vc v → Own w' b t v n sz c := by
    intro b n sz t v c ho h1 h2 h3 h4
    refine ho.far kp ?_
    rintro j hj (rfl | hg | hg | hg)
    · obtain ⟨_, cs, hb⟩ := ho.block hj; exact hb.ne H.ts.bt h1 rfl
    · obtain ⟨_, cs, hb⟩ := ho.block hj; obtain ⟨_, cs', hb'⟩ := H.ts.L.block hg; exact hb.ne hb' h2 rfl
    · obtain ⟨_, cs, hb⟩ := ho.block hj; obtain ⟨_, cs', hb'⟩ := H.ts.dead.block hg; exact hb.ne hb' h3 rfl
    · exact h4 j hg hj
  have apt : ∀ {b n sz : Nat} {t : TypeId} {v : Value} {c : Nat → Nat → Value}, Own W b t v n sz c → t ≠ 3 → Apart X.vc v := by
    intro b n sz t v c ho ht j h1 h2
    obtain ⟨_, cs, hb⟩ := ho.block h2
    exact nbc hb ht h1
  have bm' := nb H.bm (by decide) (by decide) (by decide) (nbc H.bm (by decide))
  refine ⟨rfl, ⟨X, bm'⟩, addF F W w', ⟨{ X with vl := vl', vd := vd', vc := vc', fs := fun i => if i = S.L.length then vF else X.fs i }, ?_⟩, ?_⟩
  · have ks : Keep (· = m) w' (w'.setCell ⟨m, 11, none⟩ (.int .i64 (S.last + 1))) := (Keep.refl (· = m) w').setCell (p := ⟨m, 11, none⟩) rfl _
    have hsz : (w'.setCell ⟨m, 11, none⟩ (.int .i64 (S.last + 1))).heap.size = w'.heap.size := by simp [World.setCell]
    have T : ∀ i, i < S.L.length + 1 → (i < S.L.length ∧ tAt (S.add (MS.newT c f k (S.last + 1))).L i = tAt S.L i) ∨ (i = S.L.length ∧ tAt (S.add (MS.newT c f k (S.last + 1))).L i = MS.newT c f k (S.last + 1)) := by
      intro i hi
      rcases Nat.lt_or_ge i S.L.length with h1 | h1
      · exact .inl ⟨h1, MS.t_old (k := (i : Int)) h1⟩
      · obtain rfl : i = S.L.length := by omega
        exact .inr ⟨rfl, MS.t_new⟩
    have lt9 : ∀ {v : Value} {g : Nat}, InF F v → v.ownBlock = some g → g < W.heap.size := fun hv hg => H.lt _ (hv _ hg)
    refine ⟨⟨?_, .inl H.ts.bF, ?_, ?_, ?_, ?_, ?_, ?_, ?_, ?_, ?_⟩, ?_, .inl H.mF, ?_, hw, ?_, ?_, ?_, ?_, .inl H.sF, ?_, ?_, ?_⟩
    · exact b'.keep ks (fun e => b'.ne bm' (by decide) e)
    · have o := L'.kt1 bm' ks (by decide)
      refine Own.cells o MS.add_len.symm fun i j hi hj => ?_
      show _ = cT (tAt (S.add _).L i) (if i = S.L.length then vF else X.fs i) j
      rcases T i hi with ⟨h1, e⟩ | ⟨h1, e⟩
      · rw [e, if_neg (by omega), if_neg (by omega)]; rfl
      · rw [e, if_pos h1, if_pos h1]
    · exact inF_add H.ts.LF nl L'.blt
    · intro i hi
      rw [MS.add_len] at hi
      rcases T i hi with ⟨h1, e⟩ | ⟨h1, e⟩
      · rw [e]
        show Own _ 0 _ (if i = S.L.length then vF else X.fs i) _ 2 _
        rw [if_neg (by omega)]
        exact (own (H.ts.fs i h1) (by decide) (by decide) (by decide) (apt (H.ts.fs i h1) (by decide))).kt1 bm' ks (by decide)
      · rw [e]
        show Own _ 0 _ (if i = S.L.length then vF else X.fs i) _ 2 _
        rw [if_pos h1]
        exact (V'.kt1 bm' ks (by decide)).base (by omega)
    · intro i hi
      rw [MS.add_len] at hi
      show InF _ (if i = S.L.length then vF else X.fs i)
      by_cases h1 : i = S.L.length
      · rw [if_pos h1]
        exact fun g hg => .inr ⟨(V'.block hg).1, V'.blt g hg⟩
      · rw [if_neg h1]
        exact fun g hg => .inl (H.ts.fF i (by omega) g hg)
    · intro i j hi hj
      rw [MS.add_len] at hi
      show Apart (if i = S.L.length then vF else X.fs i) (if j = S.L.length then vF else X.fs j)
      rw [if_neg (show ¬ j = S.L.length by omega)]
      by_cases h1 : i = S.L.length
      · rw [if_pos h1]
        intro g hg hg2
        have := (V'.block hg).1
        have := lt9 (H.ts.fF j (by omega)) hg2
        omega
      · rw [if_neg h1]; exact H.ts.ap i j (by omega) hj
    · have o := D'.kt1 bm' ks (by decide)
      refine Own.cells o (show S.L.length + 1 = (S.dead ++ [false]).length by rw [List.length_append, hdl]; rfl) fun i j hi hj => ?_
      show _ = Value.bool ((S.dead ++ [false]).getD i false)
      rw [List.getD_eq_getElem?_getD]
      by_cases h1 : i = S.L.length
      · rw [if_pos h1, List.getElem?_append_right (by omega), h1, hdl]; simp
      · rw [if_neg h1, List.getElem?_append_left (by omega)]
        show Value.bool (S.dead.getD i false) = _
        rw [List.getD_eq_getElem?_getD]
    · exact inF_add H.ts.dF nd D'.blt
    · have o := C'.kt1 bm' ks (by decide)
      refine Own.cells o (show S.L.length + 1 = (S.col ++ [0]).length by rw [List.length_append, hcl]; rfl) fun i j hi hj => ?_
      show _ = Value.int .i64 ((S.col ++ [0]).getD i 0)
      rw [List.getD_eq_getElem?_getD]
      by_cases h1 : i = S.L.length
      · rw [if_pos h1, List.getElem?_append_right (by omega), h1, hcl]; simp
      · rw [if_neg h1, List.getElem?_append_left (by omega)]
        show Value.int .i64 (S.col.getD i 0) = _
        rw [List.getD_eq_getElem?_getD]
    · exact inF_add H.ts.colF nc C'.blt
    · exact bm'.set 11 _
    · intro g hg
      rw [hsz]
      rcases hg with hg | hg
      · exact Nat.lt_of_lt_of_le (H.lt g hg) kF.size
      · exact hg.2
    · have r := H.R
      exact ⟨r.ap, (own r.re (by decide) (by decide) (by decide) H.ac.1).kt1 bm' ks (by decide), (own r.wa (by decide) (by decide) (by decide) (apt r.wa (by decide))).kt1 bm' ks (by decide), (own r.du (by decide) (by decide) (by decide) H.ac.2).kt1 bm' ks (by decide), (own r.sn (by decide) (by decide) (by decide) (apt r.sn (by decide))).kt1 bm' ks (by decide)⟩
    · obtain ⟨r1, r2, r3, r4⟩ := H.rF
      exact ⟨fun g hg => .inl (r1 g hg), fun g hg => .inl (r2 g hg), fun g hg => .inl (r3 g hg), fun g hg => .inl (r4 g hg)⟩
    · exact ⟨H.ac.1.new (w := W) (fun g => lt9 H.rF.1) nc, H.ac.2.new (w := W) (fun g => lt9 H.rF.2.2.1) nc⟩
    · obtain ⟨cs, st⟩ := H.st
      have s1 := nb st.blk (by decide) (by decide) (by decide) (nbc st.blk (by decide))
      refine Grey.Stk.keep ?_ ks (fun e => s1.ne bm' (by decide) e)
      exact ⟨cs, s1, st.size, st.le, st.m0, st.m1, st.at_, st.any, st.n, st.most, st.over⟩
    · refine Row.far (Row.far H.li kp ?_) ks ?_
      · rintro j hj (rfl | hg | hg | hg)
        · obtain ⟨cs, hb⟩ := H.lT _ hj; exact hb.ne H.ts.bt (by decide) rfl
        · obtain ⟨cs, hb⟩ := H.lT j hj; obtain ⟨_, cs', hb'⟩ := H.ts.L.block hg; exact hb.ne hb' (by decide) rfl
        · obtain ⟨cs, hb⟩ := H.lT j hj; obtain ⟨_, cs', hb'⟩ := H.ts.dead.block hg; exact hb.ne hb' (by decide) rfl
        · exact H.lF.2.1 j hg hj
      · rintro j hj e
        obtain ⟨cs, hb⟩ := H.lT j hj
        subst e
        exact hb.ne H.bm (by decide) rfl
    · exact ⟨fun g hg => .inl (H.lF.1 g hg), H.lF.2.1.new (w := W) (fun g => lt9 H.lF.1) nc, H.lF.2.2⟩
    · intro j hj
      obtain ⟨cs, hb⟩ := H.lT j hj
      refine ⟨cs, (nb hb (by decide) (by decide) (by decide) (fun e => H.lF.2.1 j e hj)).keep ks ?_⟩
      rintro rfl
      exact hb.ne H.bm (by decide) rfl
  · refine ⟨kF.setCell (p := ⟨m, 11, none⟩) H.mF _, fun g hg => ?_⟩
    rcases hg with hg | hg
    · exact .inl hg
    · exact .inr hg.1
/-- every edge that binds leads back -/
def backM (md : Region.Mode) (ops : Array Oper) : Bool := (List.range ops.size).all fun i => ((ops[i]?).map (·.after.all fun e => !Region.binds md e || decide (e.on < i))).getD true
theorem all_listed_m {ops : Array Oper} {md : Region.Mode} (hb : backM md ops = true) {listed : Array Bool} (hs : listed.size = ops.size) (hr : Region.ready md ops listed = []) : ∀ i, i < ops.size → listed.getD i false = true := by
  intro i
  induction i using Nat.strongRecOn with
  | ind i ih =>
    intro hi
    cases hq : listed.getD i false with
    | true => rfl
    | false =>
      exfalso
      have hm : i ∈ Region.ready md ops listed := by
        rw [ready_iff]
        refine ⟨hi, ?_, ?_⟩
        · rw [Array.getD_eq_getD_getElem?] at hq ⊢
          have hi' : i < listed.size := by omega
          rw [Array.getElem?_eq_getElem hi'] at hq ⊢
          exact hq
        · unfold backM at hb
          rw [List.all_eq_true] at hb
          have h1 := hb i (List.mem_range.2 hi)
          rw [Array.getElem?_eq_getElem hi] at h1 ⊢
          simp only [Option.map_some, Option.getD_some] at h1 ⊢
          rw [Array.all_eq_true'] at h1 ⊢
          intro e he
          have h2 := h1 e he
          rw [Bool.or_eq_true] at h2
          rcases h2 with h2 | h2
          · rw [h2, Bool.true_or]
          · rw [ih e.on (of_decide_eq_true h2) (by have := of_decide_eq_true h2; omega), Bool.or_true]
      rw [hr] at hm
      cases hm
/-! ### the region of Make that calls New -/
structure MI (w : World) (m bt : Nat) (c f zz n la ln : Int) (Post : World → Prop) (L : Nat → Bool) (s : Nat → Value) (W : World) : Prop where
  v0 : L 0 = true → s 42 = .pointer (some ⟨m, 0, none⟩)
  v1 : L 1 = true → s 43 = .pointer (some ⟨m, 0, none⟩)
  v2 : L 2 = true → s 44 = .pointer (some ⟨m, 0, none⟩)
  v3 : L 3 = true → s 45 = .iface 70 (.pointer (some ⟨bt, 0, none⟩))
  v4 : L 4 = true → s 46 = .int .i64 c
  v5 : L 5 = true → s 47 = .int .i64 f
  v6 : L 6 = true → s 48 = .int .i64 zz
  v7 : L 7 = true → s 49 = .int .i64 n
  v8 : L 8 = true → s 50 = .int .i64 (zz + n)
  v9 : L 9 = true → s 51 = .pointer (some ⟨m, 0, none⟩)
  v10 : L 10 = true → s 52 = .pointer (some ⟨m, 0, none⟩)
  v11 : L 11 = true → s 53 = .pointer (some ⟨m, 11, none⟩)
  v12 : L 12 = true → s 54 = .int .i64 la
  v13 : L 13 = true → s 55 = .int .i64 (la + 1)
  v15 : L 15 = true → s 57 = .iface 70 (.pointer (some ⟨bt, 0, none⟩))
  v16 : L 16 = true → s 58 = .tuple #[.int .i64 ln, .bool true]
  v17 : L 17 = true → s 41 = .tuple #[.int .i64 ln, .bool true]
  v18 : L 18 = true → s 59 = .int .i64 ln
  v19 : L 19 = true → s 60 = .bool true
  v20 : L 20 = true → s 11 = .int .i64 ln
  v21 : L 21 = true → s 12 = .bool true
  x : L 16 = false → IsExt w W
  k16 : L 16 = true → L 3 = true ∧ L 12 = true
  k15 : L 15 = true → L 3 = true
  k13 : L 13 = true → L 12 = true
  q : L 16 = true → Post W
def frM (m : Nat) (c f zz n : Int) (u s : Nat → Value) : Act := { tmps := #[.pointer (some ⟨m, 0, none⟩), .int .i64 c, .int .i64 n, u 3, u 4, u 5, u 6, u 7, .int .i64 zz, .int .i64 f, u 10, s 11, s 12, u 13, u 14, u 15, u 16, u 17, u 18, u 19, u 20, u 21, u 22, u 23, u 24, u 25, u 26, u 27, u 28, u 29, u 30, u 31, u 32, u 33, u 34, u 35, u 36, u 37, u 38, u 39, u 40, s 41, s 42, s 43, s 44, s 45, s 46, s 47, s 48, s 49, s 50, s 51, s 52, s 53, s 54, s 55, s 56, s 57, s 58, s 59, s 60, u 61, u 62, u 63, u 64, u 65, u 66, u 67, u 68, u 69, u 70, u 71, u 72, u 73, u 74, u 75, u 76, u 77, u 78, u 79, u 80, u 81, u 82, u 83, u 84, u 85, u 86, u 87], defers := [] }
def MInv (w : World) (m bt : Nat) (c f zz n la ln : Int) (Post : World → Prop) (u : Nat → Value) (listed : Array Bool) (a : Act) (W : World) : Prop :=
  ∃ L : Nat → Bool, (∀ k, listed.getD k false = L k) ∧ ∃ s : Nat → Value, a = frM m c f zz n u s ∧ listed.size = 22 ∧ MI w m bt c f zz n la ln Post L s W
theorem wp_any_act {P : Program} {cd : Code} {Q : Exit → Act → World → Prop} {a : Act} {w : World} (h : ∀ A, A = a → cd.wp P Q A w) : cd.wp P Q a w := h a rfl
set_option maxRecDepth 100000 in
set_option maxHeartbeats 4000000 in
theorem mmake (h : M w F m S) (hp : S.phase ≠ 1) (c n : Int) : Calls Tryz.prog 29 #[.pointer (some ⟨m, 0, none⟩), .int .i64 c, .int .i64 n] w fun e w' => e = .returned (.tuple #[.int .i64 (S.makeId c n), .bool (S.makeOK c n)]) ∧ Goes F m (S.make c n) w w' := by
  obtain ⟨bt, R⟩ := h.rd
  have C1 := Lib.hid (fun W [x : IsExt w W] => mmade (h.ext x.out) c)
  have E : Hid (S.makeOK c n = (S.isClass c && (decide (0 ≤ n) && (decide (n ≤ (if S.madeF c = 3 then 200 else 60 - S.madeN c)) && decide (S.last < 3000))))) := Lib.hid rfl
  have hA : S.isClass c = false → S.madeN c = 0 ∧ S.madeF c = 0 := fun hf => by
    unfold MS.madeN MS.madeF; rw [hf]; exact ⟨rfl, rfl⟩
  have hB := @class_made S c
  have hlen := h.wf.len
  have hlast := h.wf.last
  have hlo := h.wf.lo
  have c0 := R.c0
  have c11 := R.c11
  have c12 := R.c12
  have lt := R.lt
  have hp' : (S.phase == 1) = false := beq_eq_false_iff_ne.2 hp
  by_cases hok : S.makeOK c n = true
  · have hw := make_wf h.wf hok
    have EI : Hid (S.makeId c n = S.L.length) := Lib.hid (by unfold MS.makeId; rw [if_pos hok])
    have ES : Hid (S.make c n = S.add (MS.newT c (S.madeF c) (S.makeSz c n).toNat (S.last + 1))) := Lib.hid (by unfold MS.make; rw [if_pos hok])
    have hq : S.isClass c = true ∧ 0 ≤ n ∧ n ≤ (if S.madeF c = 3 then 200 else 60 - S.madeN c) ∧ S.last < 3000 := by
      rw [E.out] at hok
      simp only [Bool.and_eq_true, decide_eq_true_eq] at hok
      exact hok
    obtain ⟨k1, k2, k3, k4⟩ := hq
    obtain ⟨g1, g2, g3, g4⟩ := hB k1
    have hz : ∃ k : Nat, (S.makeSz c n).toNat = k ∧ ((k : Nat) : Int) = (if S.madeF c = 3 then n else S.madeN c + n) ∧ k ≤ 1000 := by
      refine ⟨_, rfl, ?_, ?_⟩
      · unfold MS.makeSz; split <;> omega
      · unfold MS.makeSz; split
        · rename_i e; rw [if_pos e] at k3; omega
        · rename_i e; rw [if_neg e] at k3; omega
    obtain ⟨k, hk0, hk1, hk2⟩ := hz
    rw [hk0] at hw ES
    obtain ⟨bt', c0', _, P⟩ := mnew h c (S.madeF c) k hk2 hw
    obtain rfl : bt = bt' := by rw [c0] at c0'; injection c0' with e; injection e with _ e; injection e with e; injection e with e; injection e
    have PP := Lib.hid P
    have HP := Lib.hid hp'
    have O := Lib.hid hok
    clear P c0' hA hB hok k1 E hw h R hk0 hp
    generalize S.madeF c = f at *
    generalize S.madeN c = z at *
    have f0 : (f == 0) = false := beq_eq_false_iff_ne.2 (by omega)
    rcases (show f = 3 ∨ ((f == 3) = false ∧ f ≠ 3) from by by_cases h3 : f = 3; exact .inl h3; exact .inr ⟨beq_eq_false_iff_ne.2 h3, h3⟩) with rfl | ⟨hf', hf⟩
    · simp only [if_true] at k3 hk1
      rw [hk1] at PP
      have PH := Lib.hid PP
      clear hk1 PP
      go_enter Tryz.func29, Tryz.ntmps29
      go_wp2_with (first | (go_at_call 42; refine (C1.out _).mono ?_; rintro e w2 ⟨rfl, x2⟩; obtain ⟨y, rfl⟩ := x2))
      refine wp_name (fun W hW => ?_)
      have hx : IsExt w W := ⟨by rw [hW]; exact is_ext _ _⟩
      have kc0 := c0
      have kc11 := c11
      have ltm := lt
      obtain ⟨f, hf3⟩ : ∃ f : Int, f = 3 := ⟨_, rfl⟩
      obtain ⟨la, hla⟩ : ∃ la, la = S.last := ⟨_, rfl⟩
      rw [← hla] at kc11
      obtain ⟨ln, hln⟩ : ∃ ln : Int, ln = S.L.length := ⟨_, rfl⟩
      obtain ⟨zz, hzz⟩ : ∃ zz : Int, zz = 0 := ⟨_, rfl⟩
      obtain ⟨Post, hPost⟩ : ∃ Post : World → Prop, Post = (fun w' => (∃ X, Blk w' m 56 (cellsM S X)) ∧ Goes F m (S.make c n) w (w'.setCell ⟨m, 11, none⟩ (.int .i64 (S.last + 1)))) := ⟨_, rfl⟩
      have hcall : ∀ W [IsExt w W], Calls Tryz.prog 178 #[.pointer (some ⟨bt, 0, none⟩), .int .i64 c, .int .i64 f, .int .i64 (zz + n), .int .i64 (la + 1)] W fun e w' => e = .returned (.tuple #[.int .i64 ln, .bool true]) ∧ Post w' := by
        intro W x
        have this := PH.out.out W
        rw [hla, hln, hzz, hPost, ES.out, hf3]
        rw [Int.zero_add]
        refine this.mono ?_
        rintro e w' ⟨rfl, b, g⟩
        exact ⟨rfl, b, g.after x.out⟩
      have hzb : 0 ≤ zz + n ∧ zz + n ≤ 1000 := by omega
      have hlb : 0 ≤ la ∧ la < 3000 := by omega
      clear hW PH
      refine wp_any_act (fun A hA => ?_)
      have eA : A = frM m c f zz n (fun q => A.tmps.getD q undef) (fun q => A.tmps.getD q undef) := by rw [hA, hzz, hf3]; rfl
      clear hA
      have HPO := Lib.hid hPost
      have HLA := Lib.hid hla
      have HLN := Lib.hid hln
      clear hzz hla hln hPost hf3
      try clear c0
      try clear c11
      try clear c12
      try clear C1
      try clear hlen hlast hlo
      try clear k2 k3 k4
      try clear g1 g2
      try clear g3 g4
      try clear hk2
      try clear f0
      generalize (fun q => A.tmps.getD q undef) = u at eA
      subst eA
      refine wp_region_inv (Inv := MInv w m bt c f zz n la ln Post u) (by kernel_rfl) ?_ ?_ ?_
      · refine ⟨fun _ => false, fun k => ?_, u, rfl, by simp, ⟨?_, ?_, ?_, ?_, ?_, ?_, ?_, ?_, ?_, ?_, ?_, ?_, ?_, ?_, ?_, ?_, ?_, ?_, ?_, ?_, ?_, ?_, ?_, ?_, ?_, ?_⟩⟩
        · rw [Array.getD_eq_getD_getElem?, Array.getElem?_replicate]; split <;> rfl
        all_goals first | (intro h; exact absurd h (by decide)) | (intro _; exact ⟨hx.out.drew⟩)
      · rintro listed a w2 i ⟨L, hL, s, rfl, hsz, I⟩ hi
        obtain ⟨hlt, hnot, hdep⟩ := (ready_iff _ _).1 hi
        have hi22 : i < 22 := hlt
        have cases22 : i = 0 ∨ i = 1 ∨ i = 2 ∨ i = 3 ∨ i = 4 ∨ i = 5 ∨ i = 6 ∨ i = 7 ∨ i = 8 ∨ i = 9 ∨ i = 10 ∨ i = 11 ∨ i = 12 ∨ i = 13 ∨ i = 14 ∨ i = 15 ∨ i = 16 ∨ i = 17 ∨ i = 18 ∨ i = 19 ∨ i = 20 ∨ i = 21 := by omega
        have hn0 : L i = false := by rw [← hL i]; exact not_bit hnot
        clear hi hlt hi22 hnot
        unfold frM
        rcases cases22 with rfl | rfl | rfl | rfl | rfl | rfl | rfl | rfl | rfl | rfl | rfl | rfl | rfl | rfl | rfl | rfl | rfl | rfl | rfl | rfl | rfl | rfl
        · -- operation 0
          simp only [Region.binds, listed_bit hL] at hdep
          refine wpOp_step rfl (fun K' hK => ?_)
          go_simp
          exact hK _ _ ⟨_, bit_set hL hsz 0 (by omega), fun j => if j = 42 then .pointer (some ⟨m, 0, none⟩) else s j, by simp [frM], by simpa using hsz, ⟨fun _ => rfl, I.v1, I.v2, I.v3, I.v4, I.v5, I.v6, I.v7, I.v8, I.v9, I.v10, I.v11, I.v12, I.v13, I.v15, I.v16, I.v17, I.v18, I.v19, I.v20, I.v21, I.x, I.k16, I.k15, I.k13, I.q⟩⟩
        · -- operation 1
          simp only [Region.binds, listed_bit hL] at hdep
          have d0 : L 0 = true := by first | simpa [hL] using hdep | (simp [hL, Region.binds] at hdep; simp [hdep])
          have e0 := I.v0 d0
          refine wpOp_step rfl (fun K' hK => ?_)
          rw [e0]
          go_simp
          exact hK _ _ ⟨_, bit_set hL hsz 1 (by omega), fun j => if j = 43 then .pointer (some ⟨m, 0, none⟩) else s j, by simp [frM, e0], by simpa using hsz, ⟨I.v0, fun _ => rfl, I.v2, I.v3, I.v4, I.v5, I.v6, I.v7, I.v8, I.v9, I.v10, I.v11, I.v12, I.v13, I.v15, I.v16, I.v17, I.v18, I.v19, I.v20, I.v21, I.x, I.k16, I.k15, I.k13, I.q⟩⟩
        · -- operation 2
          simp only [Region.binds, listed_bit hL] at hdep
          have d1 : L 1 = true := by first | simpa [hL] using hdep | (simp [hL, Region.binds] at hdep; simp [hdep])
          have e1 := I.v1 d1
          refine wpOp_step rfl (fun K' hK => ?_)
          rw [e1]
          go_simp
          exact hK _ _ ⟨_, bit_set hL hsz 2 (by omega), fun j => if j = 44 then .pointer (some ⟨m, 0, none⟩) else s j, by simp [frM, e1], by simpa using hsz, ⟨I.v0, I.v1, fun _ => rfl, I.v3, I.v4, I.v5, I.v6, I.v7, I.v8, I.v9, I.v10, I.v11, I.v12, I.v13, I.v15, I.v16, I.v17, I.v18, I.v19, I.v20, I.v21, I.x, I.k16, I.k15, I.k13, I.q⟩⟩
        · -- operation 3
          simp only [Region.binds, listed_bit hL] at hdep
          have d2 : L 2 = true := by first | simpa [hL] using hdep | (simp [hL, Region.binds] at hdep; simp [hdep])
          have e2 := I.v2 d2
          have n16 : L 16 = false := by cases hh : L 16 with | false => rfl | true => rw [(I.k16 hh).1] at hn0; cases hn0
          have hc : w2.cell? ⟨m, 0, none⟩ = some (.iface 70 (.pointer (some ⟨bt, 0, none⟩))) := ((I.x n16).out.below.cell (p := ⟨m, 0, none⟩) ltm).trans kc0
          refine wpOp_step rfl (fun K' hK => ?_)
          rw [e2]
          go_simp
          exact hK _ _ ⟨_, bit_set hL hsz 3 (by omega), fun j => if j = 45 then .iface 70 (.pointer (some ⟨bt, 0, none⟩)) else s j, by simp [frM, e2], by simpa using hsz, ⟨I.v0, I.v1, I.v2, fun _ => rfl, I.v4, I.v5, I.v6, I.v7, I.v8, I.v9, I.v10, I.v11, I.v12, I.v13, I.v15, I.v16, I.v17, I.v18, I.v19, I.v20, I.v21, I.x, fun h => ⟨rfl, (I.k16 h).2⟩, fun _ => rfl, I.k13, I.q⟩⟩
        · -- operation 4
          simp only [Region.binds, listed_bit hL] at hdep
          refine wpOp_step rfl (fun K' hK => ?_)
          go_simp
          exact hK _ _ ⟨_, bit_set hL hsz 4 (by omega), fun j => if j = 46 then .int .i64 c else s j, by simp [frM], by simpa using hsz, ⟨I.v0, I.v1, I.v2, I.v3, fun _ => rfl, I.v5, I.v6, I.v7, I.v8, I.v9, I.v10, I.v11, I.v12, I.v13, I.v15, I.v16, I.v17, I.v18, I.v19, I.v20, I.v21, I.x, I.k16, I.k15, I.k13, I.q⟩⟩
        · -- operation 5
          simp only [Region.binds, listed_bit hL] at hdep
          refine wpOp_step rfl (fun K' hK => ?_)
          go_simp
          exact hK _ _ ⟨_, bit_set hL hsz 5 (by omega), fun j => if j = 47 then .int .i64 f else s j, by simp [frM], by simpa using hsz, ⟨I.v0, I.v1, I.v2, I.v3, I.v4, fun _ => rfl, I.v6, I.v7, I.v8, I.v9, I.v10, I.v11, I.v12, I.v13, I.v15, I.v16, I.v17, I.v18, I.v19, I.v20, I.v21, I.x, I.k16, I.k15, I.k13, I.q⟩⟩
        · -- operation 6
          simp only [Region.binds, listed_bit hL] at hdep
          refine wpOp_step rfl (fun K' hK => ?_)
          go_simp
          exact hK _ _ ⟨_, bit_set hL hsz 6 (by omega), fun j => if j = 48 then .int .i64 zz else s j, by simp [frM], by simpa using hsz, ⟨I.v0, I.v1, I.v2, I.v3, I.v4, I.v5, fun _ => rfl, I.v7, I.v8, I.v9, I.v10, I.v11, I.v12, I.v13, I.v15, I.v16, I.v17, I.v18, I.v19, I.v20, I.v21, I.x, I.k16, I.k15, I.k13, I.q⟩⟩
        · -- operation 7
          simp only [Region.binds, listed_bit hL] at hdep
          refine wpOp_step rfl (fun K' hK => ?_)
          go_simp
          exact hK _ _ ⟨_, bit_set hL hsz 7 (by omega), fun j => if j = 49 then .int .i64 n else s j, by simp [frM], by simpa using hsz, ⟨I.v0, I.v1, I.v2, I.v3, I.v4, I.v5, I.v6, fun _ => rfl, I.v8, I.v9, I.v10, I.v11, I.v12, I.v13, I.v15, I.v16, I.v17, I.v18, I.v19, I.v20, I.v21, I.x, I.k16, I.k15, I.k13, I.q⟩⟩
        · -- operation 8
          simp only [Region.binds, listed_bit hL] at hdep
          have d6 : L 6 = true := by first | simpa [hL] using hdep | (simp [hL, Region.binds] at hdep; simp [hdep])
          have e6 := I.v6 d6
          have d7 : L 7 = true := by first | simpa [hL] using hdep | (simp [hL, Region.binds] at hdep; simp [hdep])
          have e7 := I.v7 d7
          refine wpOp_step rfl (fun K' hK => ?_)
          rw [e6, e7]
          go_simp
          exact hK _ _ ⟨_, bit_set hL hsz 8 (by omega), fun j => if j = 50 then .int .i64 (zz + n) else s j, by simp [frM, e6, e7]; rw [IntKind.wrap_i64]; omega, by simpa using hsz, ⟨I.v0, I.v1, I.v2, I.v3, I.v4, I.v5, I.v6, I.v7, fun _ => rfl, I.v9, I.v10, I.v11, I.v12, I.v13, I.v15, I.v16, I.v17, I.v18, I.v19, I.v20, I.v21, I.x, I.k16, I.k15, I.k13, I.q⟩⟩
        · -- operation 9
          simp only [Region.binds, listed_bit hL] at hdep
          refine wpOp_step rfl (fun K' hK => ?_)
          go_simp
          exact hK _ _ ⟨_, bit_set hL hsz 9 (by omega), fun j => if j = 51 then .pointer (some ⟨m, 0, none⟩) else s j, by simp [frM], by simpa using hsz, ⟨I.v0, I.v1, I.v2, I.v3, I.v4, I.v5, I.v6, I.v7, I.v8, fun _ => rfl, I.v10, I.v11, I.v12, I.v13, I.v15, I.v16, I.v17, I.v18, I.v19, I.v20, I.v21, I.x, I.k16, I.k15, I.k13, I.q⟩⟩
        · -- operation 10
          simp only [Region.binds, listed_bit hL] at hdep
          have d9 : L 9 = true := by first | simpa [hL] using hdep | (simp [hL, Region.binds] at hdep; simp [hdep])
          have e9 := I.v9 d9
          refine wpOp_step rfl (fun K' hK => ?_)
          rw [e9]
          go_simp
          exact hK _ _ ⟨_, bit_set hL hsz 10 (by omega), fun j => if j = 52 then .pointer (some ⟨m, 0, none⟩) else s j, by simp [frM, e9], by simpa using hsz, ⟨I.v0, I.v1, I.v2, I.v3, I.v4, I.v5, I.v6, I.v7, I.v8, I.v9, fun _ => rfl, I.v11, I.v12, I.v13, I.v15, I.v16, I.v17, I.v18, I.v19, I.v20, I.v21, I.x, I.k16, I.k15, I.k13, I.q⟩⟩
        · -- operation 11
          simp only [Region.binds, listed_bit hL] at hdep
          have d10 : L 10 = true := by first | simpa [hL] using hdep | (simp [hL, Region.binds] at hdep; simp [hdep])
          have e10 := I.v10 d10
          refine wpOp_step rfl (fun K' hK => ?_)
          rw [e10]
          go_simp
          exact hK _ _ ⟨_, bit_set hL hsz 11 (by omega), fun j => if j = 53 then .pointer (some ⟨m, 11, none⟩) else s j, by simp [frM, e10], by simpa using hsz, ⟨I.v0, I.v1, I.v2, I.v3, I.v4, I.v5, I.v6, I.v7, I.v8, I.v9, I.v10, fun _ => rfl, I.v12, I.v13, I.v15, I.v16, I.v17, I.v18, I.v19, I.v20, I.v21, I.x, I.k16, I.k15, I.k13, I.q⟩⟩
        · -- operation 12
          simp only [Region.binds, listed_bit hL] at hdep
          have d11 : L 11 = true := by first | simpa [hL] using hdep | (simp [hL, Region.binds] at hdep; simp [hdep])
          have e11 := I.v11 d11
          have n16 : L 16 = false := by cases hh : L 16 with | false => rfl | true => rw [(I.k16 hh).2] at hn0; cases hn0
          have hc : w2.cell? ⟨m, 11, none⟩ = some (.int .i64 la) := ((I.x n16).out.below.cell (p := ⟨m, 11, none⟩) ltm).trans kc11
          refine wpOp_step rfl (fun K' hK => ?_)
          rw [e11]
          go_simp
          exact hK _ _ ⟨_, bit_set hL hsz 12 (by omega), fun j => if j = 54 then .int .i64 la else s j, by simp [frM, e11], by simpa using hsz, ⟨I.v0, I.v1, I.v2, I.v3, I.v4, I.v5, I.v6, I.v7, I.v8, I.v9, I.v10, I.v11, fun _ => rfl, I.v13, I.v15, I.v16, I.v17, I.v18, I.v19, I.v20, I.v21, I.x, fun h => ⟨(I.k16 h).1, rfl⟩, I.k15, fun _ => rfl, I.q⟩⟩
        · -- operation 13
          simp only [Region.binds, listed_bit hL] at hdep
          have d12 : L 12 = true := by first | simpa [hL] using hdep | (simp [hL, Region.binds] at hdep; simp [hdep])
          have e12 := I.v12 d12
          refine wpOp_step rfl (fun K' hK => ?_)
          rw [e12]
          go_simp
          exact hK _ _ ⟨_, bit_set hL hsz 13 (by omega), fun j => if j = 55 then .int .i64 (la + 1) else s j, by simp [frM, e12]; rw [IntKind.wrap_i64]; omega, by simpa using hsz, ⟨I.v0, I.v1, I.v2, I.v3, I.v4, I.v5, I.v6, I.v7, I.v8, I.v9, I.v10, I.v11, I.v12, fun _ => rfl, I.v15, I.v16, I.v17, I.v18, I.v19, I.v20, I.v21, I.x, I.k16, I.k15, fun _ => d12, I.q⟩⟩
        · -- operation 14
          simp only [Region.binds, listed_bit hL] at hdep
          have d3 : L 3 = true := by first | simpa [hL] using hdep | (simp [hL, Region.binds] at hdep; simp [hdep])
          have e3 := I.v3 d3
          refine wpOp_step rfl (fun K' hK => ?_)
          rw [e3]
          go_simp
          exact hK _ _ ⟨_, bit_set hL hsz 14 (by omega), fun j => if j = 56 then _ else s j, by simp [frM, e3]; first | rfl | skip, by simpa using hsz, ⟨I.v0, I.v1, I.v2, I.v3, I.v4, I.v5, I.v6, I.v7, I.v8, I.v9, I.v10, I.v11, I.v12, I.v13, I.v15, I.v16, I.v17, I.v18, I.v19, I.v20, I.v21, I.x, I.k16, I.k15, I.k13, I.q⟩⟩
        · -- operation 15
          simp only [Region.binds, listed_bit hL] at hdep
          have d3 : L 3 = true := by first | simpa [hL] using hdep | (simp [hL, Region.binds] at hdep; simp [hdep])
          have e3 := I.v3 d3
          refine wpOp_step rfl (fun K' hK => ?_)
          rw [e3]
          go_simp
          exact hK _ _ ⟨_, bit_set hL hsz 15 (by omega), fun j => if j = 57 then .iface 70 (.pointer (some ⟨bt, 0, none⟩)) else s j, by simp [frM, e3], by simpa using hsz, ⟨I.v0, I.v1, I.v2, I.v3, I.v4, I.v5, I.v6, I.v7, I.v8, I.v9, I.v10, I.v11, I.v12, I.v13, fun _ => rfl, I.v16, I.v17, I.v18, I.v19, I.v20, I.v21, I.x, I.k16, fun _ => d3, I.k13, I.q⟩⟩
        · -- operation 16
          simp only [Region.binds, listed_bit hL] at hdep
          have d15 : L 15 = true := by first | simpa [hL] using hdep | (simp [hL, Region.binds] at hdep; simp [hdep])
          have e15 := I.v15 d15
          have d4 : L 4 = true := by first | simpa [hL] using hdep | (simp [hL, Region.binds] at hdep; simp [hdep])
          have e4 := I.v4 d4
          have d5 : L 5 = true := by first | simpa [hL] using hdep | (simp [hL, Region.binds] at hdep; simp [hdep])
          have e5 := I.v5 d5
          have d8 : L 8 = true := by first | simpa [hL] using hdep | (simp [hL, Region.binds] at hdep; simp [hdep])
          have e8 := I.v8 d8
          have d13 : L 13 = true := by first | simpa [hL] using hdep | (simp [hL, Region.binds] at hdep; simp [hdep])
          have e13 := I.v13 d13
          refine wpOp_step rfl (fun K' hK => ?_)
          rw [e15, e4, e5, e8, e13]
          go_simp
          have ix : IsExt w w2 := I.x hn0
          refine (hcall w2).mono ?_
          rintro e w3 ⟨rfl, po⟩
          exact hK _ _ ⟨_, bit_set hL hsz 16 (by omega), fun j => if j = 58 then .tuple #[.int .i64 ln, .bool true] else s j, by simp [frM, e15, e4, e5, e8, e13], by simpa using hsz, ⟨I.v0, I.v1, I.v2, I.v3, I.v4, I.v5, I.v6, I.v7, I.v8, I.v9, I.v10, I.v11, I.v12, I.v13, I.v15, fun _ => rfl, I.v17, I.v18, I.v19, I.v20, I.v21, fun h => absurd h (by simp), fun _ => ⟨I.k15 d15, I.k13 d13⟩, I.k15, I.k13, fun _ => po⟩⟩
        · -- operation 17
          simp only [Region.binds, listed_bit hL] at hdep
          have d16 : L 16 = true := by first | simpa [hL] using hdep | (simp [hL, Region.binds] at hdep; simp [hdep])
          have e16 := I.v16 d16
          refine wpOp_step rfl (fun K' hK => ?_)
          rw [e16]
          go_simp
          exact hK _ _ ⟨_, bit_set hL hsz 17 (by omega), fun j => if j = 41 then .tuple #[.int .i64 ln, .bool true] else s j, by simp [frM, e16], by simpa using hsz, ⟨I.v0, I.v1, I.v2, I.v3, I.v4, I.v5, I.v6, I.v7, I.v8, I.v9, I.v10, I.v11, I.v12, I.v13, I.v15, I.v16, fun _ => rfl, I.v18, I.v19, I.v20, I.v21, I.x, I.k16, I.k15, I.k13, I.q⟩⟩
        · -- operation 18
          simp only [Region.binds, listed_bit hL] at hdep
          have d17 : L 17 = true := by first | simpa [hL] using hdep | (simp [hL, Region.binds] at hdep; simp [hdep])
          have e17 := I.v17 d17
          refine wpOp_step rfl (fun K' hK => ?_)
          rw [e17]
          go_simp
          exact hK _ _ ⟨_, bit_set hL hsz 18 (by omega), fun j => if j = 59 then .int .i64 ln else s j, by simp [frM, e17], by simpa using hsz, ⟨I.v0, I.v1, I.v2, I.v3, I.v4, I.v5, I.v6, I.v7, I.v8, I.v9, I.v10, I.v11, I.v12, I.v13, I.v15, I.v16, I.v17, fun _ => rfl, I.v19, I.v20, I.v21, I.x, I.k16, I.k15, I.k13, I.q⟩⟩
        · -- operation 19
          simp only [Region.binds, listed_bit hL] at hdep
          have d17 : L 17 = true := by first | simpa [hL] using hdep | (simp [hL, Region.binds] at hdep; simp [hdep])
          have e17 := I.v17 d17
          refine wpOp_step rfl (fun K' hK => ?_)
          rw [e17]
          go_simp
          exact hK _ _ ⟨_, bit_set hL hsz 19 (by omega), fun j => if j = 60 then .bool true else s j, by simp [frM, e17], by simpa using hsz, ⟨I.v0, I.v1, I.v2, I.v3, I.v4, I.v5, I.v6, I.v7, I.v8, I.v9, I.v10, I.v11, I.v12, I.v13, I.v15, I.v16, I.v17, I.v18, fun _ => rfl, I.v20, I.v21, I.x, I.k16, I.k15, I.k13, I.q⟩⟩
        · -- operation 20
          simp only [Region.binds, listed_bit hL] at hdep
          have d18 : L 18 = true := by first | simpa [hL] using hdep | (simp [hL, Region.binds] at hdep; simp [hdep])
          have e18 := I.v18 d18
          refine wpOp_step rfl (fun K' hK => ?_)
          rw [e18]
          go_simp
          exact hK _ _ ⟨_, bit_set hL hsz 20 (by omega), fun j => if j = 11 then .int .i64 ln else s j, by simp [frM, e18], by simpa using hsz, ⟨I.v0, I.v1, I.v2, I.v3, I.v4, I.v5, I.v6, I.v7, I.v8, I.v9, I.v10, I.v11, I.v12, I.v13, I.v15, I.v16, I.v17, I.v18, I.v19, fun _ => rfl, I.v21, I.x, I.k16, I.k15, I.k13, I.q⟩⟩
        · -- operation 21
          simp only [Region.binds, listed_bit hL] at hdep
          have d19 : L 19 = true := by first | simpa [hL] using hdep | (simp [hL, Region.binds] at hdep; simp [hdep])
          have e19 := I.v19 d19
          refine wpOp_step rfl (fun K' hK => ?_)
          rw [e19]
          go_simp
          exact hK _ _ ⟨_, bit_set hL hsz 21 (by omega), fun j => if j = 12 then .bool true else s j, by simp [frM, e19], by simpa using hsz, ⟨I.v0, I.v1, I.v2, I.v3, I.v4, I.v5, I.v6, I.v7, I.v8, I.v9, I.v10, I.v11, I.v12, I.v13, I.v15, I.v16, I.v17, I.v18, I.v19, I.v20, fun _ => rfl, I.x, I.k16, I.k15, I.k13, I.q⟩⟩
      · rintro listed a w2 ⟨L, hL, s, rfl, hsz, I⟩ hr
        have ALL : ∀ i, i < 22 → L i = true := fun i hi => by rw [← hL i]; exact all_listed_m (by kernel_rfl) hsz hr i hi
        have r11 := I.v20 (ALL 20 (by omega))
        have r12 := I.v21 (ALL 21 (by omega))
        have po := I.q (ALL 16 (by omega))
        clear I hL ALL hr hsz
        unfold frM
        rw [r11, r12]
        clear r11 r12
        rw [HPO.out] at po
        obtain ⟨⟨X2, b2⟩, G2⟩ := po
        obtain ⟨q1, q2, q3⟩ := b2.rules
        unfold cellsM at q1
        have G := Lib.hid G2
        clear b2 G2 hcall HPO
        have hlast9 : 0 ≤ S.last ∧ S.last < 3000 := by rw [← HLA.out]; exact hlb
        go_wp2_with fail
        go_ret2
        rw [EI.out, O.out, ← HLN.out]
        exact ⟨rfl, G.out⟩
    · simp only [hf, if_false] at k3 hk1
      rw [hk1] at PP
      have PH := Lib.hid PP
      clear hk1 PP hf
      go_enter Tryz.func29, Tryz.ntmps29
      go_wp2_with (first | (go_at_call 42; refine (C1.out _).mono ?_; rintro e w2 ⟨rfl, x2⟩; obtain ⟨y, rfl⟩ := x2))
      refine wp_name (fun W hW => ?_)
      have hx : IsExt w W := ⟨by rw [hW]; exact is_ext _ _⟩
      have kc0 := c0
      have kc11 := c11
      have ltm := lt
      obtain ⟨la, hla⟩ : ∃ la, la = S.last := ⟨_, rfl⟩
      rw [← hla] at kc11
      obtain ⟨ln, hln⟩ : ∃ ln : Int, ln = S.L.length := ⟨_, rfl⟩
      obtain ⟨zz, hzz⟩ : ∃ zz : Int, zz = z := ⟨_, rfl⟩
      obtain ⟨Post, hPost⟩ : ∃ Post : World → Prop, Post = (fun w' => (∃ X, Blk w' m 56 (cellsM S X)) ∧ Goes F m (S.make c n) w (w'.setCell ⟨m, 11, none⟩ (.int .i64 (S.last + 1)))) := ⟨_, rfl⟩
      have hcall : ∀ W [IsExt w W], Calls Tryz.prog 178 #[.pointer (some ⟨bt, 0, none⟩), .int .i64 c, .int .i64 f, .int .i64 (zz + n), .int .i64 (la + 1)] W fun e w' => e = .returned (.tuple #[.int .i64 ln, .bool true]) ∧ Post w' := by
        intro W x
        have this := PH.out.out W
        rw [hla, hln, hzz, hPost, ES.out]
        refine this.mono ?_
        rintro e w' ⟨rfl, b, g⟩
        exact ⟨rfl, b, g.after x.out⟩
      have hzb : 0 ≤ zz + n ∧ zz + n ≤ 1000 := by omega
      have hlb : 0 ≤ la ∧ la < 3000 := by omega
      clear hW PH
      refine wp_any_act (fun A hA => ?_)
      have eA : A = frM m c f zz n (fun q => A.tmps.getD q undef) (fun q => A.tmps.getD q undef) := by rw [hA, hzz]; rfl
      clear hA
      have HPO := Lib.hid hPost
      have HLA := Lib.hid hla
      have HLN := Lib.hid hln
      clear hzz hla hln hPost
      try clear c0
      try clear c11
      try clear c12
      try clear C1
      try clear hlen hlast hlo
      try clear k2 k3 k4
      try clear g1 g2
      try clear g3 g4
      try clear hk2
      try clear f0
      generalize (fun q => A.tmps.getD q undef) = u at eA
      subst eA
      refine wp_region_inv (Inv := MInv w m bt c f zz n la ln Post u) (by kernel_rfl) ?_ ?_ ?_
      · refine ⟨fun _ => false, fun k => ?_, u, rfl, by simp, ⟨?_, ?_, ?_, ?_, ?_, ?_, ?_, ?_, ?_, ?_, ?_, ?_, ?_, ?_, ?_, ?_, ?_, ?_, ?_, ?_, ?_, ?_, ?_, ?_, ?_, ?_⟩⟩
        · rw [Array.getD_eq_getD_getElem?, Array.getElem?_replicate]; split <;> rfl
        all_goals first | (intro h; exact absurd h (by decide)) | (intro _; exact ⟨hx.out.drew⟩)
      · rintro listed a w2 i ⟨L, hL, s, rfl, hsz, I⟩ hi
        obtain ⟨hlt, hnot, hdep⟩ := (ready_iff _ _).1 hi
        have hi22 : i < 22 := hlt
        have cases22 : i = 0 ∨ i = 1 ∨ i = 2 ∨ i = 3 ∨ i = 4 ∨ i = 5 ∨ i = 6 ∨ i = 7 ∨ i = 8 ∨ i = 9 ∨ i = 10 ∨ i = 11 ∨ i = 12 ∨ i = 13 ∨ i = 14 ∨ i = 15 ∨ i = 16 ∨ i = 17 ∨ i = 18 ∨ i = 19 ∨ i = 20 ∨ i = 21 := by omega
        have hn0 : L i = false := by rw [← hL i]; exact not_bit hnot
        clear hi hlt hi22 hnot
        unfold frM
        rcases cases22 with rfl | rfl | rfl | rfl | rfl | rfl | rfl | rfl | rfl | rfl | rfl | rfl | rfl | rfl | rfl | rfl | rfl | rfl | rfl | rfl | rfl | rfl
        · -- operation 0
          simp only [Region.binds, listed_bit hL] at hdep
          refine wpOp_step rfl (fun K' hK => ?_)
          go_simp
          exact hK _ _ ⟨_, bit_set hL hsz 0 (by omega), fun j => if j = 42 then .pointer (some ⟨m, 0, none⟩) else s j, by simp [frM], by simpa using hsz, ⟨fun _ => rfl, I.v1, I.v2, I.v3, I.v4, I.v5, I.v6, I.v7, I.v8, I.v9, I.v10, I.v11, I.v12, I.v13, I.v15, I.v16, I.v17, I.v18, I.v19, I.v20, I.v21, I.x, I.k16, I.k15, I.k13, I.q⟩⟩
        · -- operation 1
          simp only [Region.binds, listed_bit hL] at hdep
          have d0 : L 0 = true := by first | simpa [hL] using hdep | (simp [hL, Region.binds] at hdep; simp [hdep])
          have e0 := I.v0 d0
          refine wpOp_step rfl (fun K' hK => ?_)
          rw [e0]
          go_simp
          exact hK _ _ ⟨_, bit_set hL hsz 1 (by omega), fun j => if j = 43 then .pointer (some ⟨m, 0, none⟩) else s j, by simp [frM, e0], by simpa using hsz, ⟨I.v0, fun _ => rfl, I.v2, I.v3, I.v4, I.v5, I.v6, I.v7, I.v8, I.v9, I.v10, I.v11, I.v12, I.v13, I.v15, I.v16, I.v17, I.v18, I.v19, I.v20, I.v21, I.x, I.k16, I.k15, I.k13, I.q⟩⟩
        · -- operation 2
          simp only [Region.binds, listed_bit hL] at hdep
          have d1 : L 1 = true := by first | simpa [hL] using hdep | (simp [hL, Region.binds] at hdep; simp [hdep])
          have e1 := I.v1 d1
          refine wpOp_step rfl (fun K' hK => ?_)
          rw [e1]
          go_simp
          exact hK _ _ ⟨_, bit_set hL hsz 2 (by omega), fun j => if j = 44 then .pointer (some ⟨m, 0, none⟩) else s j, by simp [frM, e1], by simpa using hsz, ⟨I.v0, I.v1, fun _ => rfl, I.v3, I.v4, I.v5, I.v6, I.v7, I.v8, I.v9, I.v10, I.v11, I.v12, I.v13, I.v15, I.v16, I.v17, I.v18, I.v19, I.v20, I.v21, I.x, I.k16, I.k15, I.k13, I.q⟩⟩
        · -- operation 3
          simp only [Region.binds, listed_bit hL] at hdep
          have d2 : L 2 = true := by first | simpa [hL] using hdep | (simp [hL, Region.binds] at hdep; simp [hdep])
          have e2 := I.v2 d2
          have n16 : L 16 = false := by cases hh : L 16 with | false => rfl | true => rw [(I.k16 hh).1] at hn0; cases hn0
          have hc : w2.cell? ⟨m, 0, none⟩ = some (.iface 70 (.pointer (some ⟨bt, 0, none⟩))) := ((I.x n16).out.below.cell (p := ⟨m, 0, none⟩) ltm).trans kc0
          refine wpOp_step rfl (fun K' hK => ?_)
          rw [e2]
          go_simp
          exact hK _ _ ⟨_, bit_set hL hsz 3 (by omega), fun j => if j = 45 then .iface 70 (.pointer (some ⟨bt, 0, none⟩)) else s j, by simp [frM, e2], by simpa using hsz, ⟨I.v0, I.v1, I.v2, fun _ => rfl, I.v4, I.v5, I.v6, I.v7, I.v8, I.v9, I.v10, I.v11, I.v12, I.v13, I.v15, I.v16, I.v17, I.v18, I.v19, I.v20, I.v21, I.x, fun h => ⟨rfl, (I.k16 h).2⟩, fun _ => rfl, I.k13, I.q⟩⟩
        · -- operation 4
          simp only [Region.binds, listed_bit hL] at hdep
          refine wpOp_step rfl (fun K' hK => ?_)
          go_simp
          exact hK _ _ ⟨_, bit_set hL hsz 4 (by omega), fun j => if j = 46 then .int .i64 c else s j, by simp [frM], by simpa using hsz, ⟨I.v0, I.v1, I.v2, I.v3, fun _ => rfl, I.v5, I.v6, I.v7, I.v8, I.v9, I.v10, I.v11, I.v12, I.v13, I.v15, I.v16, I.v17, I.v18, I.v19, I.v20, I.v21, I.x, I.k16, I.k15, I.k13, I.q⟩⟩
        · -- operation 5
          simp only [Region.binds, listed_bit hL] at hdep
          refine wpOp_step rfl (fun K' hK => ?_)
          go_simp
          exact hK _ _ ⟨_, bit_set hL hsz 5 (by omega), fun j => if j = 47 then .int .i64 f else s j, by simp [frM], by simpa using hsz, ⟨I.v0, I.v1, I.v2, I.v3, I.v4, fun _ => rfl, I.v6, I.v7, I.v8, I.v9, I.v10, I.v11, I.v12, I.v13, I.v15, I.v16, I.v17, I.v18, I.v19, I.v20, I.v21, I.x, I.k16, I.k15, I.k13, I.q⟩⟩
        · -- operation 6
          simp only [Region.binds, listed_bit hL] at hdep
          refine wpOp_step rfl (fun K' hK => ?_)
          go_simp
          exact hK _ _ ⟨_, bit_set hL hsz 6 (by omega), fun j => if j = 48 then .int .i64 zz else s j, by simp [frM], by simpa using hsz, ⟨I.v0, I.v1, I.v2, I.v3, I.v4, I.v5, fun _ => rfl, I.v7, I.v8, I.v9, I.v10, I.v11, I.v12, I.v13, I.v15, I.v16, I.v17, I.v18, I.v19, I.v20, I.v21, I.x, I.k16, I.k15, I.k13, I.q⟩⟩
        · -- operation 7
          simp only [Region.binds, listed_bit hL] at hdep
          refine wpOp_step rfl (fun K' hK => ?_)
          go_simp
          exact hK _ _ ⟨_, bit_set hL hsz 7 (by omega), fun j => if j = 49 then .int .i64 n else s j, by simp [frM], by simpa using hsz, ⟨I.v0, I.v1, I.v2, I.v3, I.v4, I.v5, I.v6, fun _ => rfl, I.v8, I.v9, I.v10, I.v11, I.v12, I.v13, I.v15, I.v16, I.v17, I.v18, I.v19, I.v20, I.v21, I.x, I.k16, I.k15, I.k13, I.q⟩⟩
        · -- operation 8
          simp only [Region.binds, listed_bit hL] at hdep
          have d6 : L 6 = true := by first | simpa [hL] using hdep | (simp [hL, Region.binds] at hdep; simp [hdep])
          have e6 := I.v6 d6
          have d7 : L 7 = true := by first | simpa [hL] using hdep | (simp [hL, Region.binds] at hdep; simp [hdep])
          have e7 := I.v7 d7
          refine wpOp_step rfl (fun K' hK => ?_)
          rw [e6, e7]
          go_simp
          exact hK _ _ ⟨_, bit_set hL hsz 8 (by omega), fun j => if j = 50 then .int .i64 (zz + n) else s j, by simp [frM, e6, e7]; rw [IntKind.wrap_i64]; omega, by simpa using hsz, ⟨I.v0, I.v1, I.v2, I.v3, I.v4, I.v5, I.v6, I.v7, fun _ => rfl, I.v9, I.v10, I.v11, I.v12, I.v13, I.v15, I.v16, I.v17, I.v18, I.v19, I.v20, I.v21, I.x, I.k16, I.k15, I.k13, I.q⟩⟩
        · -- operation 9
          simp only [Region.binds, listed_bit hL] at hdep
          refine wpOp_step rfl (fun K' hK => ?_)
          go_simp
          exact hK _ _ ⟨_, bit_set hL hsz 9 (by omega), fun j => if j = 51 then .pointer (some ⟨m, 0, none⟩) else s j, by simp [frM], by simpa using hsz, ⟨I.v0, I.v1, I.v2, I.v3, I.v4, I.v5, I.v6, I.v7, I.v8, fun _ => rfl, I.v10, I.v11, I.v12, I.v13, I.v15, I.v16, I.v17, I.v18, I.v19, I.v20, I.v21, I.x, I.k16, I.k15, I.k13, I.q⟩⟩
        · -- operation 10
          simp only [Region.binds, listed_bit hL] at hdep
          have d9 : L 9 = true := by first | simpa [hL] using hdep | (simp [hL, Region.binds] at hdep; simp [hdep])
          have e9 := I.v9 d9
          refine wpOp_step rfl (fun K' hK => ?_)
          rw [e9]
          go_simp
          exact hK _ _ ⟨_, bit_set hL hsz 10 (by omega), fun j => if j = 52 then .pointer (some ⟨m, 0, none⟩) else s j, by simp [frM, e9], by simpa using hsz, ⟨I.v0, I.v1, I.v2, I.v3, I.v4, I.v5, I.v6, I.v7, I.v8, I.v9, fun _ => rfl, I.v11, I.v12, I.v13, I.v15, I.v16, I.v17, I.v18, I.v19, I.v20, I.v21, I.x, I.k16, I.k15, I.k13, I.q⟩⟩
        · -- operation 11
          simp only [Region.binds, listed_bit hL] at hdep
          have d10 : L 10 = true := by first | simpa [hL] using hdep | (simp [hL, Region.binds] at hdep; simp [hdep])
          have e10 := I.v10 d10
          refine wpOp_step rfl (fun K' hK => ?_)
          rw [e10]
          go_simp
          exact hK _ _ ⟨_, bit_set hL hsz 11 (by omega), fun j => if j = 53 then .pointer (some ⟨m, 11, none⟩) else s j, by simp [frM, e10], by simpa using hsz, ⟨I.v0, I.v1, I.v2, I.v3, I.v4, I.v5, I.v6, I.v7, I.v8, I.v9, I.v10, fun _ => rfl, I.v12, I.v13, I.v15, I.v16, I.v17, I.v18, I.v19, I.v20, I.v21, I.x, I.k16, I.k15, I.k13, I.q⟩⟩
        · -- operation 12
          simp only [Region.binds, listed_bit hL] at hdep
          have d11 : L 11 = true := by first | simpa [hL] using hdep | (simp [hL, Region.binds] at hdep; simp [hdep])
          have e11 := I.v11 d11
          have n16 : L 16 = false := by cases hh : L 16 with | false => rfl | true => rw [(I.k16 hh).2] at hn0; cases hn0
          have hc : w2.cell? ⟨m, 11, none⟩ = some (.int .i64 la) := ((I.x n16).out.below.cell (p := ⟨m, 11, none⟩) ltm).trans kc11
          refine wpOp_step rfl (fun K' hK => ?_)
          rw [e11]
          go_simp
          exact hK _ _ ⟨_, bit_set hL hsz 12 (by omega), fun j => if j = 54 then .int .i64 la else s j, by simp [frM, e11], by simpa using hsz, ⟨I.v0, I.v1, I.v2, I.v3, I.v4, I.v5, I.v6, I.v7, I.v8, I.v9, I.v10, I.v11, fun _ => rfl, I.v13, I.v15, I.v16, I.v17, I.v18, I.v19, I.v20, I.v21, I.x, fun h => ⟨(I.k16 h).1, rfl⟩, I.k15, fun _ => rfl, I.q⟩⟩
        · -- operation 13
          simp only [Region.binds, listed_bit hL] at hdep
          have d12 : L 12 = true := by first | simpa [hL] using hdep | (simp [hL, Region.binds] at hdep; simp [hdep])
          have e12 := I.v12 d12
          refine wpOp_step rfl (fun K' hK => ?_)
          rw [e12]
          go_simp
          exact hK _ _ ⟨_, bit_set hL hsz 13 (by omega), fun j => if j = 55 then .int .i64 (la + 1) else s j, by simp [frM, e12]; rw [IntKind.wrap_i64]; omega, by simpa using hsz, ⟨I.v0, I.v1, I.v2, I.v3, I.v4, I.v5, I.v6, I.v7, I.v8, I.v9, I.v10, I.v11, I.v12, fun _ => rfl, I.v15, I.v16, I.v17, I.v18, I.v19, I.v20, I.v21, I.x, I.k16, I.k15, fun _ => d12, I.q⟩⟩
        · -- operation 14
          simp only [Region.binds, listed_bit hL] at hdep
          have d3 : L 3 = true := by first | simpa [hL] using hdep | (simp [hL, Region.binds] at hdep; simp [hdep])
          have e3 := I.v3 d3
          refine wpOp_step rfl (fun K' hK => ?_)
          rw [e3]
          go_simp
          exact hK _ _ ⟨_, bit_set hL hsz 14 (by omega), fun j => if j = 56 then _ else s j, by simp [frM, e3]; first | rfl | skip, by simpa using hsz, ⟨I.v0, I.v1, I.v2, I.v3, I.v4, I.v5, I.v6, I.v7, I.v8, I.v9, I.v10, I.v11, I.v12, I.v13, I.v15, I.v16, I.v17, I.v18, I.v19, I.v20, I.v21, I.x, I.k16, I.k15, I.k13, I.q⟩⟩
        · -- operation 15
          simp only [Region.binds, listed_bit hL] at hdep
          have d3 : L 3 = true := by first | simpa [hL] using hdep | (simp [hL, Region.binds] at hdep; simp [hdep])
          have e3 := I.v3 d3
          refine wpOp_step rfl (fun K' hK => ?_)
          rw [e3]
          go_simp
          exact hK _ _ ⟨_, bit_set hL hsz 15 (by omega), fun j => if j = 57 then .iface 70 (.pointer (some ⟨bt, 0, none⟩)) else s j, by simp [frM, e3], by simpa using hsz, ⟨I.v0, I.v1, I.v2, I.v3, I.v4, I.v5, I.v6, I.v7, I.v8, I.v9, I.v10, I.v11, I.v12, I.v13, fun _ => rfl, I.v16, I.v17, I.v18, I.v19, I.v20, I.v21, I.x, I.k16, fun _ => d3, I.k13, I.q⟩⟩
        · -- operation 16
          simp only [Region.binds, listed_bit hL] at hdep
          have d15 : L 15 = true := by first | simpa [hL] using hdep | (simp [hL, Region.binds] at hdep; simp [hdep])
          have e15 := I.v15 d15
          have d4 : L 4 = true := by first | simpa [hL] using hdep | (simp [hL, Region.binds] at hdep; simp [hdep])
          have e4 := I.v4 d4
          have d5 : L 5 = true := by first | simpa [hL] using hdep | (simp [hL, Region.binds] at hdep; simp [hdep])
          have e5 := I.v5 d5
          have d8 : L 8 = true := by first | simpa [hL] using hdep | (simp [hL, Region.binds] at hdep; simp [hdep])
          have e8 := I.v8 d8
          have d13 : L 13 = true := by first | simpa [hL] using hdep | (simp [hL, Region.binds] at hdep; simp [hdep])
          have e13 := I.v13 d13
          refine wpOp_step rfl (fun K' hK => ?_)
          rw [e15, e4, e5, e8, e13]
          go_simp
          have ix : IsExt w w2 := I.x hn0
          refine (hcall w2).mono ?_
          rintro e w3 ⟨rfl, po⟩
          exact hK _ _ ⟨_, bit_set hL hsz 16 (by omega), fun j => if j = 58 then .tuple #[.int .i64 ln, .bool true] else s j, by simp [frM, e15, e4, e5, e8, e13], by simpa using hsz, ⟨I.v0, I.v1, I.v2, I.v3, I.v4, I.v5, I.v6, I.v7, I.v8, I.v9, I.v10, I.v11, I.v12, I.v13, I.v15, fun _ => rfl, I.v17, I.v18, I.v19, I.v20, I.v21, fun h => absurd h (by simp), fun _ => ⟨I.k15 d15, I.k13 d13⟩, I.k15, I.k13, fun _ => po⟩⟩
        · -- operation 17
          simp only [Region.binds, listed_bit hL] at hdep
          have d16 : L 16 = true := by first | simpa [hL] using hdep | (simp [hL, Region.binds] at hdep; simp [hdep])
          have e16 := I.v16 d16
          refine wpOp_step rfl (fun K' hK => ?_)
          rw [e16]
          go_simp
          exact hK _ _ ⟨_, bit_set hL hsz 17 (by omega), fun j => if j = 41 then .tuple #[.int .i64 ln, .bool true] else s j, by simp [frM, e16], by simpa using hsz, ⟨I.v0, I.v1, I.v2, I.v3, I.v4, I.v5, I.v6, I.v7, I.v8, I.v9, I.v10, I.v11, I.v12, I.v13, I.v15, I.v16, fun _ => rfl, I.v18, I.v19, I.v20, I.v21, I.x, I.k16, I.k15, I.k13, I.q⟩⟩
        · -- operation 18
          simp only [Region.binds, listed_bit hL] at hdep
          have d17 : L 17 = true := by first | simpa [hL] using hdep | (simp [hL, Region.binds] at hdep; simp [hdep])
          have e17 := I.v17 d17
          refine wpOp_step rfl (fun K' hK => ?_)
          rw [e17]
          go_simp
          exact hK _ _ ⟨_, bit_set hL hsz 18 (by omega), fun j => if j = 59 then .int .i64 ln else s j, by simp [frM, e17], by simpa using hsz, ⟨I.v0, I.v1, I.v2, I.v3, I.v4, I.v5, I.v6, I.v7, I.v8, I.v9, I.v10, I.v11, I.v12, I.v13, I.v15, I.v16, I.v17, fun _ => rfl, I.v19, I.v20, I.v21, I.x, I.k16, I.k15, I.k13, I.q⟩⟩
        · -- operation 19
          simp only [Region.binds, listed_bit hL] at hdep
          have d17 : L 17 = true := by first | simpa [hL] using hdep | (simp [hL, Region.binds] at hdep; simp [hdep])
          have e17 := I.v17 d17
          refine wpOp_step rfl (fun K' hK => ?_)
          rw [e17]
          go_simp
          exact hK _ _ ⟨_, bit_set hL hsz 19 (by omega), fun j => if j = 60 then .bool true else s j, by simp [frM, e17], by simpa using hsz, ⟨I.v0, I.v1, I.v2, I.v3, I.v4, I.v5, I.v6, I.v7, I.v8, I.v9, I.v10, I.v11, I.v12, I.v13, I.v15, I.v16, I.v17, I.v18, fun _ => rfl, I.v20, I.v21, I.x, I.k16, I.k15, I.k13, I.q⟩⟩
        · -- operation 20
          simp only [Region.binds, listed_bit hL] at hdep
          have d18 : L 18 = true := by first | simpa [hL] using hdep | (simp [hL, Region.binds] at hdep; simp [hdep])
          have e18 := I.v18 d18
          refine wpOp_step rfl (fun K' hK => ?_)
          rw [e18]
          go_simp
          exact hK _ _ ⟨_, bit_set hL hsz 20 (by omega), fun j => if j = 11 then .int .i64 ln else s j, by simp [frM, e18], by simpa using hsz, ⟨I.v0, I.v1, I.v2, I.v3, I.v4, I.v5, I.v6, I.v7, I.v8, I.v9, I.v10, I.v11, I.v12, I.v13, I.v15, I.v16, I.v17, I.v18, I.v19, fun _ => rfl, I.v21, I.x, I.k16, I.k15, I.k13, I.q⟩⟩
        · -- operation 21
          simp only [Region.binds, listed_bit hL] at hdep
          have d19 : L 19 = true := by first | simpa [hL] using hdep | (simp [hL, Region.binds] at hdep; simp [hdep])
          have e19 := I.v19 d19
          refine wpOp_step rfl (fun K' hK => ?_)
          rw [e19]
          go_simp
          exact hK _ _ ⟨_, bit_set hL hsz 21 (by omega), fun j => if j = 12 then .bool true else s j, by simp [frM, e19], by simpa using hsz, ⟨I.v0, I.v1, I.v2, I.v3, I.v4, I.v5, I.v6, I.v7, I.v8, I.v9, I.v10, I.v11, I.v12, I.v13, I.v15, I.v16, I.v17, I.v18, I.v19, I.v20, fun _ => rfl, I.x, I.k16, I.k15, I.k13, I.q⟩⟩
      · rintro listed a w2 ⟨L, hL, s, rfl, hsz, I⟩ hr
        have ALL : ∀ i, i < 22 → L i = true := fun i hi => by rw [← hL i]; exact all_listed_m (by kernel_rfl) hsz hr i hi
        have r11 := I.v20 (ALL 20 (by omega))
        have r12 := I.v21 (ALL 21 (by omega))
        have po := I.q (ALL 16 (by omega))
        clear I hL ALL hr hsz
        unfold frM
        rw [r11, r12]
        clear r11 r12
        rw [HPO.out] at po
        obtain ⟨⟨X2, b2⟩, G2⟩ := po
        obtain ⟨q1, q2, q3⟩ := b2.rules
        unfold cellsM at q1
        have G := Lib.hid G2
        clear b2 G2 hcall HPO
        have hlast9 : 0 ≤ S.last ∧ S.last < 3000 := by rw [← HLA.out]; exact hlb
        go_wp2_with fail
        go_ret2
        rw [EI.out, O.out, ← HLN.out]
        exact ⟨rfl, G.out⟩
  · have hok : S.makeOK c n = false := by simpa using hok
    have EI : Hid (S.makeId c n = 0) := Lib.hid (by unfold MS.makeId; rw [hok]; rfl)
    have ES : Hid (S.make c n = S) := Lib.hid (by unfold MS.make; rw [hok]; rfl)
    have hn : S.isClass c = true → 0 ≤ n → n ≤ (if S.madeF c = 3 then 200 else 60 - S.madeN c) → S.last < 3000 → False := by
      intro a1 a2 a3 a4
      rw [E.out, a1, decide_eq_true a2, decide_eq_true a3, decide_eq_true a4] at hok
      cases hok
    have HN := Lib.hid hn
    have HH := Lib.hid h
    have HA := Lib.hid hA
    have HB := Lib.hid hB
    have O := Lib.hid hok
    clear hn h R E hA hB hok hp hp' c12
    generalize S.madeF c = f at *
    generalize S.madeN c = z at *
    generalize S.isClass c = a at *
    generalize S.makeOK c n = ok at *
    cases a
    · obtain ⟨rfl, rfl⟩ := HA.out rfl
      clear HN HB
      go_enter Tryz.func29, Tryz.ntmps29
      go_wp2_with (first | (go_at_call 42; refine (C1.out _).mono ?_; rintro e w2 ⟨rfl, x2⟩; obtain ⟨y, rfl⟩ := x2))
      go_ret2
      rw [EI.out, ES.out]
      try rw [O.out]
      exact ⟨rfl, Goes.same HH.out (is_ext _ _)⟩
    · obtain ⟨b1, b2, b3, b4⟩ := HB.out rfl
      have f0 : (f == 0) = false := beq_eq_false_iff_ne.2 (by omega)
      have HM := Lib.hid (HN.out rfl)
      clear HA HB HN
      by_cases hf : f = 3
      · subst hf
        simp only [if_true] at HM
        go_enter Tryz.func29, Tryz.ntmps29
        go_wp2_with (first | (go_at_call 42; refine (C1.out _).mono ?_; rintro e w2 ⟨rfl, x2⟩; obtain ⟨y, rfl⟩ := x2))
        all_goals first
          | exact (HM.out (by omega) (by omega) (by omega)).elim
          | (go_ret2
             rw [EI.out, ES.out]
             try rw [O.out]
             exact ⟨rfl, Goes.same HH.out (is_ext _ _)⟩)
      · simp only [hf, if_false] at HM
        have hf' : (f == 3) = false := beq_eq_false_iff_ne.2 hf
        go_enter Tryz.func29, Tryz.ntmps29
        go_wp2_with (first | (go_at_call 42; refine (C1.out _).mono ?_; rintro e w2 ⟨rfl, x2⟩; obtain ⟨y, rfl⟩ := x2))
        all_goals first
          | exact (HM.out (by omega) (by omega) (by omega)).elim
          | (go_ret2
             rw [EI.out, ES.out]
             try rw [O.out]
             exact ⟨rfl, Goes.same HH.out (is_ext _ _)⟩)
end
end Go.Proofs.YtjpalcejmloocaaGreat.World
