/-
  Mem3, as one text (a claim has at most 60 files).
-/
import Derived.Test.YtjpalcejmloocaaGreatCt16
import Derived.BigRegion
namespace Go.Proofs.YtjpalcejmloocaaGreat.World
open Go.RowKit Go.Proofs.YtjpalcejmloocaaGreat.Plain
set_option linter.unusedVariables false
attribute [local go_sem ↓] Go.wp_at_zero Go.wp_at_succ
section
variable {w w' w2 : World} {F F' F2 : Nat → Prop} {m : Nat} {S S' : MS} {X : MX}
/-! ### stores into what the call owns -/
theorem Own.store {b : Nat} {e : TypeId} {n sz cap g : Nat} {c : Nat → Nat → Value} (h : Own w b e (.slice (some ⟨g, 0, none⟩) n cap) n sz c) (i j : Nat) (hi : i < n) (hj : j < sz) (u : Value) : Own (w.setCell ⟨g, i * sz + j, none⟩ u) b e (.slice (some ⟨g, 0, none⟩) n cap) n sz (fun p q => if p = i ∧ q = j then u else c p q) := by
  have h' : w.ownsRow b e sz (.slice (some ⟨g, 0, none⟩) n cap) n (flat n sz c) := h
  refine ⟨flat_len _ _ _, .inr ?_⟩
  rcases h'.2 with ⟨e1, _⟩ | ⟨g', cap', cur, e1, hb, hg, hn, hcap, hsz, ht⟩
  · cases e1
  · injection e1 with e1 e2 e3
    injection e1 with e1
    injection e1 with e1
    subst e1 e3
    have hB : Blk w g e cur := hg
    refine ⟨g, cap, _, rfl, hb, hB.set (i * sz + j) u, hn, hcap, by rw [Array.size_setIfInBounds]; exact hsz, ?_⟩
    have hlt : i * sz + j < n * sz := by
      have : i * sz + sz ≤ n * sz := by rw [← Nat.succ_mul]; exact Nat.mul_le_mul_right _ hi
      omega
    refine List.ext_getElem? fun r => ?_
    by_cases hr : r < n * sz
    · rw [List.getElem?_take_of_lt hr, Array.getElem?_toList, Array.getElem?_setIfInBounds]
      have hs : 0 < sz := by omega
      have e0 := flat_at n sz (fun p q => if p = i ∧ q = j then u else c p q) (r / sz) (r % sz) (Nat.div_lt_of_lt_mul (by rw [Nat.mul_comm]; exact hr)) (Nat.mod_lt _ hs)
      have e1 : r / sz * sz + r % sz = r := by rw [Nat.mul_comm]; exact Nat.div_add_mod r sz
      rw [e1] at e0
      rw [e0]
      have e2 := flat_at n sz c (r / sz) (r % sz) (Nat.div_lt_of_lt_mul (by rw [Nat.mul_comm]; exact hr)) (Nat.mod_lt _ hs)
      rw [e1, ← ht, List.getElem?_take_of_lt hr, Array.getElem?_toList] at e2
      by_cases hq : i * sz + j = r
      · have d1 : r / sz = i := by rw [← hq, Nat.mul_comm, Nat.mul_add_div hs, Nat.div_eq_of_lt hj]; rfl
        have d2 : r % sz = j := by rw [← hq, Nat.mul_comm, Nat.mul_add_mod, Nat.mod_eq_of_lt hj]
        have hn2 : n * sz ≤ cap * sz := Nat.mul_le_mul_right _ hn
        rw [if_pos hq, if_pos (by omega), d1, d2]; simp
      · rw [if_neg hq, e2]
        have : ¬ (r / sz = i ∧ r % sz = j) := by
          rintro ⟨d1, d2⟩
          rw [d1, d2] at e1; exact hq e1
        simp only [this, if_false]
    · rw [List.getElem?_take_eq_none (by omega), List.getElem?_eq_none (by rw [flat_len]; omega)]
theorem Own.far {b : Nat} {e : TypeId} {v : Value} {n sz : Nat} {c : Nat → Nat → Value} {P : Nat → Prop} (h : Own w b e v n sz c) (k : Keep P w w') (hn : ∀ j, v.ownBlock = some j → ¬ P j) : Own w' b e v n sz c := by
  have h : w.ownsRow b e sz v n (flat n sz c) := h
  refine ⟨h.1, ?_⟩
  rcases h.2 with hh | ⟨g, cap, cur, e1, h1, hg, rest⟩
  · exact .inl hh
  · exact .inr ⟨g, cap, cur, e1, h1, Blk.keep (show Blk w g e cur from hg) k (hn g (by rw [e1]; rfl)), rest⟩
theorem Own.congr {b : Nat} {e : TypeId} {v : Value} {n sz : Nat} {c c' : Nat → Nat → Value} (h : Own w b e v n sz c) (hc : ∀ i j, i < n → j < sz → c i j = c' i j) : Own w b e v n sz c' := by
  have h' : w.ownsRow b e sz v n (flat n sz c) := h
  have ef : flat n sz c = flat n sz c' := by
    unfold flat
    refine List.map_congr_left fun q hq => ?_
    have hq : q < n * sz := List.mem_range.1 hq
    have hs : 0 < sz := by
      rcases Nat.eq_zero_or_pos sz with h1 | h1
      · subst h1; omega
      · exact h1
    exact hc _ _ (Nat.div_lt_of_lt_mul (by rw [Nat.mul_comm]; exact hq)) (Nat.mod_lt _ hs)
  rw [ef] at h'
  exact h'
/-- a slice in a block of another type stays -/
theorem Own.kt1 {b g : Nat} {e t : TypeId} {v : Value} {n sz : Nat} {c : Nat → Nat → Value} {cs : Array Value} (h : Own w b e v n sz c) (hg : Blk w g t cs) (k : Keep (· = g) w w') (hn : e ≠ t) : Own w' b e v n sz c :=
  h.far k (fun j hj hh => by
    obtain ⟨_, cs', hb⟩ := h.block hj
    subst hh
    exact hb.ne hg hn rfl)
/-! ### a field turned -/
theorem set_tAt_F (L : List PT) (k : Nat) (hk : k < L.length) (Fl : List PV) (i : Nat) : (tAt (L.set k { tAt L k with F := Fl }) i) = if i = k then { tAt L k with F := Fl } else tAt L i := MS.tAt_set L k i _ hk
theorem TsAt.put {k l g : Nat} {cap : Nat} {v : PV} (h : TsAt w F S X) (hk : k < S.L.length) (hl : l < (tAt S.L k).F.length) (hg : X.fs k = .slice (some ⟨g, 0, none⟩) (tAt S.L k).F.length cap) :
    TsAt ((w.setCell ⟨g, l * 2, none⟩ (.bool v.obj)).setCell ⟨g, l * 2 + 1, none⟩ (.int .i64 v.n)) F (S.put k l v) X ∧ Keep (· = g) w ((w.setCell ⟨g, l * 2, none⟩ (.bool v.obj)).setCell ⟨g, l * 2 + 1, none⟩ (.int .i64 v.n)) := by
  have hf := h.fs k hk
  rw [hg] at hf
  have o1 := hf.store l 0 hl (by omega) (.bool v.obj)
  have o2 := o1.store l 1 hl (by omega) (.int .i64 v.n)
  have K : Keep (· = g) w ((w.setCell ⟨g, l * 2, none⟩ (.bool v.obj)).setCell ⟨g, l * 2 + 1, none⟩ (.int .i64 v.n)) := ((Keep.refl (· = g) w).setCell (p := ⟨g, l * 2, none⟩) rfl _).setCell (p := ⟨g, l * 2 + 1, none⟩) rfl _
  have ob : (X.fs k).ownBlock = some g := by rw [hg]; rfl
  obtain ⟨_, cs, hb⟩ := (h.fs k hk).block ob
  have T : ∀ i, tAt (S.put k l v).L i = if i = k then { tAt S.L k with F := (tAt S.L k).F.set l v } else tAt S.L i := fun i => set_tAt_F S.L k hk _ i
  have hlen : (S.put k l v).L.length = S.L.length := MS.put_len
  refine ⟨⟨h.bt.keep K (fun e => ?_), h.bF, ?_, h.LF, fun i hi => ?_, fun i hi => h.fF i (by omega), fun i j hi hj => h.ap i j (by omega) hj, h.dead.kt1 hb K (by decide), h.dF, h.col.kt1 hb K (by decide), h.colF⟩, K⟩
  · subst e; exact h.bt.ne hb (by decide) rfl
  · rw [hlen]
    refine (h.L.kt1 hb K (by decide)).congr fun i j hi hj => ?_
    show cT (tAt S.L i) (X.fs i) j = cT (tAt (S.put k l v).L i) (X.fs i) j
    rw [T i]
    by_cases he : i = k
    · subst he; rw [if_pos rfl]
      rcases j with _ | _ | _ | _ | _ | _ | _ <;> rfl
    · rw [if_neg he]
  · rw [hlen] at hi
    rw [T i]
    by_cases he : i = k
    · subst he
      rw [if_pos rfl, hg]
      show Own _ 0 _ _ ((tAt S.L i).F.set l v).length 2 (cF ((tAt S.L i).F.set l v))
      rw [List.length_set]
      refine o2.congr fun p q hp hq => ?_
      show (if p = l ∧ q = 1 then _ else if p = l ∧ q = 0 then _ else cF _ p q) = cV (vAt ((tAt S.L i).F.set l v) p) q
      rw [MS.vAt_set _ _ _ _ hl]
      by_cases hp2 : p = l
      · rw [if_pos hp2]
        rcases q with _ | _ | q
        · rw [if_neg (by omega), if_pos ⟨hp2, rfl⟩]; rfl
        · rw [if_pos ⟨hp2, rfl⟩]; rfl
        · omega
      · rw [if_neg (fun e => hp2 e.1), if_neg (fun e => hp2 e.1), if_neg hp2]; rfl
    · rw [if_neg he]
      refine (h.fs i hi).far K (fun j hj hh => ?_)
      subst hh
      rcases Nat.lt_or_ge i k with h1 | h1
      · exact h.ap k i hk h1 _ ob hj
      · exact h.ap i k hi (by omega) _ hj ob
set_option maxRecDepth 100000 in
set_option maxHeartbeats 2000000 in
theorem tput (h : TsAt w F S X) (k l : Nat) (v : PV) (hk : k < S.L.length) (hl : l < (tAt S.L k).F.length) (hn : S.L.length ≤ 1000000) (hm : (tAt S.L k).F.length ≤ 1000000) : Calls Tryz.prog 181 #[.pointer (some ⟨X.bt, 0, none⟩), .int .i64 k, .int .i64 l, val v] w fun e w' => e = .returned (.tuple #[]) ∧ TsAt w' F (S.put k l v) X ∧ Keep (fun g => (X.fs k).ownBlock = some g) w w' := by
  obtain ⟨g, cap, e1, hg, _, _, _, _, c4, _, _, _⟩ := h.thing k hk
  obtain ⟨q1, q2, q3⟩ := h.bt.rules
  rw [e1] at q1
  obtain ⟨gf, capf, ef, _, _, hgf, hcf, hff, _⟩ := (h.fs k hk).lt l hl
  obtain ⟨o, n⟩ := v
  have HP := Lib.hid (fun (w1 : World) (x : Ext w w1) => (h.ext x).put (v := ⟨o, n⟩) hk hl ef)
  have OB : Hid ((X.fs k).ownBlock = some gf) := Lib.hid (by rw [ef]; rfl)
  rw [ef] at c4
  have d0 := hff (l * 2)
  have d1 := hff (l * 2 + 1)
  have D0 : Hid (∃ u, w.cell? ⟨gf, l * 2, none⟩ = some u) := Lib.hid ⟨_, hcf 0 (by omega)⟩
  have D1 : Hid (∃ u, w.cell? ⟨gf, l * 2 + 1, none⟩ = some u) := Lib.hid ⟨_, hcf 1 (by omega)⟩
  obtain ⟨u0, u0e⟩ := D0.out
  obtain ⟨u1, u1e⟩ := D1.out
  clear h e1 ef hcf hff D0 D1
  unfold val
  generalize (tAt S.L k).F.length = nf at *
  generalize S.L.length = n' at *
  generalize X.bt = bt at *
  have hk' : (k : Int) < n' := by omega
  have hl' : (l : Int) < nf := by omega
  cases o
  all_goals
    go_enter Tryz.func181, Tryz.ntmps181
    go_wp2_with fail
    go_region
    go_end0
    obtain ⟨p1, p2⟩ := HP.out w (Ext.refl w)
    exact ⟨rfl, p1.ext (is_ext _ _), (p2.mono (fun j e => by subst e; exact OB.out)).ext (is_ext _ _)⟩
/-! ### what stays of a world that is turned -/
theorem Row.far {v : Value} {n sz : Nat} {c : Nat → Nat → Value} {P : Nat → Prop} (h : Row w v n sz c) (k : Keep P w w') (hn : ∀ j, v.ownBlock = some j → ¬ P j) : Row w' v n sz c := by
  obtain ⟨A, cap, e, h1, h2, h3⟩ := h.ex
  refine ⟨A, cap, e, h1, h2, fun i hi => ?_⟩
  obtain ⟨b, off, ea, hb, hc⟩ := h3 i hi
  refine ⟨b, off, ea, Nat.lt_of_lt_of_le hb k.size, fun j hj => ?_⟩
  rw [← hc j hj]
  exact World.cell?_of_block (k.block b hb (hn b (by rw [e, ea]; rfl)))
theorem Typ.kt {v : Value} {t : TypeId} {ts : List TypeId} (h : Typ w v t) (k : KT ts w w') (hn : t ∉ ts) : Typ w' v t := fun j hj => by obtain ⟨cs, b⟩ := h j hj; exact ⟨cs, blk_kt b k hn⟩
theorem Row.kt {v : Value} {n sz : Nat} {c : Nat → Nat → Value} {t : TypeId} {ts : List TypeId} (h : Row w v n sz c) (y : Typ w v t) (k : KT ts w w') (hn : t ∉ ts) : Row w' v n sz c :=
  h.far k (fun j hj => by
    obtain ⟨cs, b⟩ := y j hj
    rintro ⟨t', cs', ht, hb⟩
    by_cases e : t = t'
    · subst e; exact hn ht
    · exact b.ne hb e rfl)
theorem stk_kt {g mo : Nat} {L : List Int} {o : Bool} {ts : List TypeId} (h : Grey.Stk w g L mo o) (k : KT ts w w') (hn : 118 ∉ ts) : Grey.Stk w' g L mo o := by
  obtain ⟨cs, h'⟩ := h
  refine Grey.Stk.keep ⟨cs, h'⟩ k ?_
  rintro ⟨t', cs', ht, hb⟩
  by_cases e : 118 = t'
  · subst e; exact hn ht
  · exact h'.blk.ne hb e rfl
/-- things have turned, in blocks of some types; all else of a world stays -/
theorem MemAt.turn {ts : List TypeId} (h : MemAt w F m S X) (t' : TsAt w' F S' X) (k : KT ts w w') (hw : S'.Wf) (e : S'.last = S.last ∧ S'.R = S.R ∧ S'.phase = S.phase ∧ S'.stk = S.stk ∧ S'.most = S.most ∧ S'.over = S.over ∧ S'.lst = S.lst ∧ S'.short = S.short) (n1 : 3 ∉ ts) (n2 : 96 ∉ ts) (n3 : 9 ∉ ts) (n4 : 118 ∉ ts) (n5 : 56 ∉ ts) : MemAt w' F m S' X := by
  obtain ⟨e1, e2, e3, e4, e5, e6, e7, e8⟩ := e
  refine ⟨t', ?_, h.mF, fun j hj => Nat.lt_of_lt_of_le (h.lt j hj) k.size, hw, ?_, h.rF, h.ac, ?_, h.sF, ?_, h.lF, h.lT.kt k n1⟩
  · have e9 : cellsM S' X = cellsM S X := by unfold cellsM; rw [e1, e2, e3, e8]
    rw [e9]; exact blk_kt h.bm k n5
  · rw [e2]; exact h.R.kt k n1 n2 n3
  · rw [e4, e5, e6]; exact stk_kt h.st k n4
  · rw [e7]; exact Row.kt h.li h.lT k n1
/-- Put of a world that is turned -/
theorem mput (h : M w F m S) {i j : Int} {v : PV} (hf : S.isField i j = true) (hv : S.may v = true) : ∃ bt, w.cell? ⟨m, 0, none⟩ = some (.iface 70 (.pointer (some ⟨bt, 0, none⟩))) ∧ m < w.heap.size ∧ ∀ W [IsExt w W], Calls Tryz.prog 181 #[.pointer (some ⟨bt, 0, none⟩), .int .i64 i, .int .i64 j, val v] W fun e w' => e = .returned (.tuple #[]) ∧ M w' F m (S.put i j v) ∧ Keep (fun g => F g) W w' := by
  obtain ⟨X, h⟩ := h
  obtain ⟨a1, a2, a3, a4, _, _⟩ := MS.field_lt h.wf hf
  have hw := MS.put_wf h.wf hf hv
  obtain ⟨k, rfl⟩ := Int.eq_ofNat_of_zero_le a1
  obtain ⟨l, rfl⟩ := Int.eq_ofNat_of_zero_le a3
  have b1 := h.wf.nF k (by omega)
  have b2 := h.wf.len
  have b3 := h.wf.last
  have a4 : (l : Int) < ((tAt S.L k).F.length : Nat) := a4
  obtain ⟨q1, _, q3⟩ := h.bm.rules
  refine ⟨X.bt, q1 0, q3, fun W x => (tput (h.ext x.out).ts k l v (by omega) (by omega) (by omega) (by omega)).mono ?_⟩
  rintro e w' ⟨rfl, t', kp⟩
  have kt : KT [38] W w' := kp.mono (fun g hg => by
    obtain ⟨_, cs, b⟩ := ((h.ext x.out).ts.fs k (by omega)).block hg
    exact ⟨_, cs, by simp, b⟩)
  exact ⟨rfl, ⟨X, (h.ext x.out).turn t' kt hw ⟨rfl, rfl, rfl, rfl, rfl, rfl, rfl, rfl⟩ (by decide) (by decide) (by decide) (by decide) (by decide)⟩, kp.mono (fun g hg => h.ts.fF k (by omega) g hg)⟩
end
end Go.Proofs.YtjpalcejmloocaaGreat.World
