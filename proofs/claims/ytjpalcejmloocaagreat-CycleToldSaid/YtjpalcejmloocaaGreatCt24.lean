/-
  Cyc1, as one text (a claim has at most 60 files).
-/
import Derived.Test.YtjpalcejmloocaaGreatCt19
import Derived.Test.YtjpalcejmloocaaGreatCt23
import Derived.Deep.AppendLies
namespace Go.Proofs.YtjpalcejmloocaaGreat.World
open Go.RowKit Go.Proofs.YtjpalcejmloocaaGreat.Plain
set_option linter.unusedVariables false
attribute [local go_sem ↓] Go.wp_at_zero Go.wp_at_succ
section
variable {w w' w2 : World} {F F' F2 : Nat → Prop} {m : Nat} {S S' : MS} {X : MX}
set_option maxRecDepth 100000 in
set_option maxHeartbeats 1000000 in
theorem tcolour (h : TsAt w F S X) (wf : S.Wf) (i : Int) : Calls Tryz.prog 170 #[.pointer (some ⟨X.bt, 0, none⟩), .int .i64 i] w fun e w' => e = .returned (.int .i64 (S.colour i)) ∧ Ext w w' := by
  have E : Hid (S.colour i = if S.has i then S.col.getD i.toNat 0 else 0) := Lib.hid rfl
  have C := Lib.hid (thas h wf i)
  have HH := Lib.hid h
  have hl := @MS.has_lt S i
  have hcl := wf.col
  clear h
  go_enter Tryz.func170, Tryz.ntmps170
  go_wp2_with fail
  refine C.out.mono ?_
  clear C
  rintro e w2 ⟨rfl, x2⟩
  have h2 := HH.out.ext x2
  cases hb : S.has i with
  | false =>
    rw [hb, if_neg (by decide)] at E
    clear h2 HH hl
    go_wp2
    go_ret
    exact ⟨ret_int (by rw [E.out]), x2⟩
  | true =>
    rw [hb, if_pos rfl] at E
    obtain ⟨g1, g2⟩ := hl hb
    obtain ⟨k, rfl⟩ := Int.eq_ofNat_of_zero_le g1
    rw [Int.toNat_natCast] at E
    obtain ⟨g, cap, e1, _, _, hg, hc, _, _⟩ := h2.col.lt k (by omega)
    have c1 : w2.cell? ⟨g, k, none⟩ = some (.int .i64 (S.col.getD k 0)) := by
      have := hc 0 (by omega)
      rw [Nat.mul_one] at this; exact this
    obtain ⟨q1, q2, q3⟩ := h2.bt.rules
    rw [e1] at q1
    have g3 : (k : Int) < (S.col.length : Int) := by omega
    clear h2 HH e1 hl hc
    generalize S.col.getD k 0 = t at *
    generalize S.col.length = n at *
    generalize S.L.length = n' at *
    generalize X.bt = bt at *
    have X2 := Lib.hid x2
    clear x2
    go_wp2
    go_ret
    exact ⟨ret_int (by rw [E.out]), X2.out⟩
set_option maxRecDepth 100000 in
set_option maxHeartbeats 1000000 in
theorem tfinal (h : TsAt w F S X) (wf : S.Wf) (i : Int) : Calls Tryz.prog 172 #[.pointer (some ⟨X.bt, 0, none⟩), .int .i64 i] w fun e w' => e = .returned (.bool (S.final i)) ∧ Ext w w' := by
  have E : Hid (S.final i = (S.has i && (tAt S.L i.toNat).fin)) := Lib.hid rfl
  have C := Lib.hid (thas h wf i)
  have HH := Lib.hid h
  have hl := @MS.has_lt S i
  clear h
  go_enter Tryz.func172, Tryz.ntmps172
  go_wp2_with fail
  refine C.out.mono ?_
  clear C
  rintro e w2 ⟨rfl, x2⟩
  have h2 := HH.out.ext x2
  cases hb : S.has i with
  | false =>
    rw [hb, Bool.false_and] at E
    clear h2 HH hl
    go_wp2
    go_ret
    exact ⟨ret_bool (by rw [E.out]), x2⟩
  | true =>
    rw [hb, Bool.true_and] at E
    obtain ⟨g1, g2⟩ := hl hb
    obtain ⟨k, rfl⟩ := Int.eq_ofNat_of_zero_le g1
    rw [Int.toNat_natCast] at E
    obtain ⟨g, cap, e1, hg, c0, c1, c2, c3, c4, c5, _, _⟩ := h2.thing k (by omega)
    obtain ⟨q1, q2, q3⟩ := h2.bt.rules
    rw [e1] at q1
    clear h2 HH e1 hl
    generalize tAt S.L k = t at *
    generalize S.L.length = n at *
    generalize X.bt = bt at *
    generalize X.fs k = fk at *
    have X2 := Lib.hid x2
    clear x2
    go_wp2
    go_ret
    exact ⟨ret_bool (by rw [E.out]), X2.out⟩
/-! ### a colour turned -/
theorem own_ne {b b' n n' sz sz' : Nat} {e e' : TypeId} {v v' : Value} {c c' : Nat → Nat → Value} (h : Own w b e v n sz c) (h' : Own w b' e' v' n' sz' c') (hn : e ≠ e') {j : Nat} (h1 : v.ownBlock = some j) (h2 : v'.ownBlock = some j) : False := by
  obtain ⟨_, cs, hb⟩ := h.block h1
  obtain ⟨_, cs', hb'⟩ := h'.block h2
  exact hb.ne hb' hn rfl
theorem own_blk_ne {b n sz g : Nat} {e t : TypeId} {v : Value} {c : Nat → Nat → Value} {cs : Array Value} (h : Own w b e v n sz c) (hb : Blk w g t cs) (hn : e ≠ t) (h1 : v.ownBlock = some g) : False := by
  obtain ⟨_, cs', hb'⟩ := h.block h1
  exact hb'.ne hb hn rfl
theorem TsAt.paint {k g cap : Nat} {c : Int} (h : TsAt w F S X) (hk : k < S.col.length) (hg : X.vc = .slice (some ⟨g, 0, none⟩) S.col.length cap) : TsAt (w.setCell ⟨g, k, none⟩ (.int .i64 c)) F (S.paint k c) X ∧ Keep (· = g) w (w.setCell ⟨g, k, none⟩ (.int .i64 c)) := by
  have hc := h.col
  rw [hg] at hc
  have o1 := hc.store k 0 hk (by omega) (.int .i64 c)
  rw [show k * 1 + 0 = k by omega] at o1
  have K : Keep (· = g) w (w.setCell ⟨g, k, none⟩ (.int .i64 c)) := (Keep.refl (· = g) w).setCell (p := ⟨g, k, none⟩) rfl _
  have ob : X.vc.ownBlock = some g := by rw [hg]; rfl
  obtain ⟨_, cs, hb⟩ := h.col.block ob
  refine ⟨⟨h.bt.keep K (fun e => ?_), h.bF, h.L.kt1 hb K (by decide), h.LF, fun i hi => (h.fs i hi).kt1 hb K (by decide), h.fF, h.ap, h.dead.kt1 hb K (by decide), h.dF, ?_, h.colF⟩, K⟩
  · subst e; exact h.bt.ne hb (by decide) rfl
  · have e1 : (S.paint k c).col = S.col.set k c := rfl
    rw [e1, List.length_set, hg]
    refine o1.congr fun i j hi hj => ?_
    obtain rfl : j = 0 := by omega
    show _ = Value.int .i64 ((S.col.set k c).getD i 0)
    rw [List.getD_eq_getElem?_getD, List.getElem?_set]
    by_cases e : i = k
    · subst e; rw [if_pos ⟨rfl, rfl⟩, if_pos rfl, if_pos hk]; rfl
    · rw [if_neg (fun q => e q.1), if_neg (fun q => e q.symm)]
      show Value.int .i64 (S.col.getD i 0) = _
      rw [List.getD_eq_getElem?_getD]
theorem MemAt.turnCol (h : MemAt w F m S X) (t' : TsAt w' F S' X) (K : Keep (fun g => X.vc.ownBlock = some g) w w') (hw : S'.Wf) (e : S'.last = S.last ∧ S'.R = S.R ∧ S'.phase = S.phase ∧ S'.stk = S.stk ∧ S'.most = S.most ∧ S'.over = S.over ∧ S'.lst = S.lst ∧ S'.short = S.short) : MemAt w' F m S' X := by
  obtain ⟨e1, e2, e3, e4, e5, e6, e7, e8⟩ := e
  have st := h.st
  obtain ⟨sc, st'⟩ := h.st
  refine ⟨t', ?_, h.mF, fun j hj => Nat.lt_of_lt_of_le (h.lt j hj) K.size, hw, ?_, h.rF, h.ac, ?_, h.sF, ?_, h.lF, fun j hj => ?_⟩
  · have e9 : cellsM S' X = cellsM S X := by unfold cellsM; rw [e1, e2, e3, e8]
    rw [e9]; exact h.bm.keep K (fun q => own_blk_ne h.ts.col h.bm (by decide) q)
  · rw [e2]
    exact ⟨h.R.ap, h.R.re.far K (fun j hj q => h.ac.1 j q hj), h.R.wa.far K (fun j hj q => own_ne h.ts.col h.R.wa (by decide) q hj), h.R.du.far K (fun j hj q => h.ac.2 j q hj), h.R.sn.far K (fun j hj q => own_ne h.ts.col h.R.sn (by decide) q hj)⟩
  · rw [e4, e5, e6]; exact st.keep K (fun q => own_blk_ne h.ts.col st'.blk (by decide) q)
  · rw [e7]; exact Row.far h.li K (fun j hj q => h.lF.2.1 j q hj)
  · obtain ⟨cs, b⟩ := h.lT j hj
    exact ⟨cs, b.keep K (fun q => h.lF.2.1 j q hj)⟩
set_option maxRecDepth 100000 in
set_option maxHeartbeats 2000000 in
theorem tpaint (h : TsAt w F S X) (k : Nat) (c : Int) (hk : k < S.col.length) (hn : S.col.length ≤ 1000000) : Calls Tryz.prog 179 #[.pointer (some ⟨X.bt, 0, none⟩), .int .i64 k, .int .i64 c] w fun e w' => e = .returned (.tuple #[]) ∧ TsAt w' F (S.paint k c) X ∧ Keep (fun g => X.vc.ownBlock = some g) w w' := by
  obtain ⟨q1, q2, q3⟩ := h.bt.rules
  obtain ⟨g, cap, e1, _, _, hg, hc, hf, _⟩ := h.col.lt k hk
  have HP := Lib.hid (fun (w1 : World) (x : Ext w w1) => (h.ext x).paint (c := c) hk e1)
  have OB : Hid (X.vc.ownBlock = some g) := Lib.hid (by rw [e1]; rfl)
  rw [e1] at q1
  have d0 := hf k
  obtain ⟨u0, u0e⟩ : ∃ u, w.cell? ⟨g, k, none⟩ = some u := ⟨_, by have := hc 0 (by omega); rw [Nat.mul_one] at this; exact this⟩
  clear h e1 hc hf
  generalize S.col.length = n' at *
  generalize X.bt = bt at *
  have hk' : (k : Int) < n' := by omega
  go_enter Tryz.func179, Tryz.ntmps179
  go_wp2_with fail
  go_end0
  obtain ⟨p1, p2⟩ := HP.out w (Ext.refl w)
  exact ⟨rfl, p1.ext (is_ext _ _), (p2.mono (fun j e => by subst e; exact OB.out)).ext (is_ext _ _)⟩
set_option maxRecDepth 100000 in
set_option maxHeartbeats 2000000 in
theorem tsweep (h : TsAt w F S X) (k : Nat) (hk : k < S.col.length) (hn : S.col.length ≤ 1000000) : Calls Tryz.prog 187 #[.pointer (some ⟨X.bt, 0, none⟩), .int .i64 k] w fun e w' => e = .returned (.tuple #[]) ∧ TsAt w' F (S.paint k 0) X ∧ Keep (fun g => X.vc.ownBlock = some g) w w' := by
  obtain ⟨q1, q2, q3⟩ := h.bt.rules
  obtain ⟨g, cap, e1, _, _, hg, hc, hf, _⟩ := h.col.lt k hk
  have HP := Lib.hid (fun (w1 : World) (x : Ext w w1) => (h.ext x).paint (c := 0) hk e1)
  have OB : Hid (X.vc.ownBlock = some g) := Lib.hid (by rw [e1]; rfl)
  rw [e1] at q1
  have d0 := hf k
  obtain ⟨u0, u0e⟩ : ∃ u, w.cell? ⟨g, k, none⟩ = some u := ⟨_, by have := hc 0 (by omega); rw [Nat.mul_one] at this; exact this⟩
  clear h e1 hc hf
  generalize S.col.length = n' at *
  generalize X.bt = bt at *
  have hk' : (k : Int) < n' := by omega
  go_enter Tryz.func187, Tryz.ntmps187
  go_wp2_with fail
  go_end0
  obtain ⟨p1, p2⟩ := HP.out w (Ext.refl w)
  exact ⟨rfl, p1.ext (is_ext _ _), (p2.mono (fun j e => by subst e; exact OB.out)).ext (is_ext _ _)⟩
theorem TsAt.kill {k g cap : Nat} (h : TsAt w F S X) (hk : k < S.dead.length) (hg : X.vd = .slice (some ⟨g, 0, none⟩) S.dead.length cap) : TsAt (w.setCell ⟨g, k, none⟩ (.bool true)) F (S.kill k) X ∧ Keep (· = g) w (w.setCell ⟨g, k, none⟩ (.bool true)) := by
  have hc := h.dead
  rw [hg] at hc
  have o1 := hc.store k 0 hk (by omega) (.bool true)
  rw [show k * 1 + 0 = k by omega] at o1
  have K : Keep (· = g) w (w.setCell ⟨g, k, none⟩ (.bool true)) := (Keep.refl (· = g) w).setCell (p := ⟨g, k, none⟩) rfl _
  have ob : X.vd.ownBlock = some g := by rw [hg]; rfl
  obtain ⟨_, cs, hb⟩ := h.dead.block ob
  refine ⟨⟨h.bt.keep K (fun e => ?_), h.bF, h.L.kt1 hb K (by decide), h.LF, fun i hi => (h.fs i hi).kt1 hb K (by decide), h.fF, h.ap, ?_, h.dF, h.col.kt1 hb K (by decide), h.colF⟩, K⟩
  · subst e; exact h.bt.ne hb (by decide) rfl
  · have e1 : (S.kill k).dead = S.dead.set k true := rfl
    rw [e1, List.length_set, hg]
    refine o1.congr fun i j hi hj => ?_
    obtain rfl : j = 0 := by omega
    show _ = Value.bool ((S.dead.set k true).getD i false)
    rw [List.getD_eq_getElem?_getD, List.getElem?_set]
    by_cases e : i = k
    · subst e; rw [if_pos ⟨rfl, rfl⟩, if_pos rfl, if_pos hk]; rfl
    · rw [if_neg (fun q => e q.1), if_neg (fun q => e q.symm)]
      show Value.bool (S.dead.getD i false) = _
      rw [List.getD_eq_getElem?_getD]
set_option maxRecDepth 100000 in
set_option maxHeartbeats 2000000 in
theorem tkill (h : TsAt w F S X) (k : Nat) (hk : k < S.dead.length) (hn : S.dead.length ≤ 1000000) : Calls Tryz.prog 176 #[.pointer (some ⟨X.bt, 0, none⟩), .int .i64 k] w fun e w' => e = .returned (.tuple #[]) ∧ TsAt w' F (S.kill k) X ∧ Keep (fun g => X.vd.ownBlock = some g) w w' := by
  obtain ⟨q1, q2, q3⟩ := h.bt.rules
  obtain ⟨g, cap, e1, _, _, hg, hc, hf, _⟩ := h.dead.lt k hk
  have HP := Lib.hid (fun (w1 : World) (x : Ext w w1) => (h.ext x).kill hk e1)
  have OB : Hid (X.vd.ownBlock = some g) := Lib.hid (by rw [e1]; rfl)
  rw [e1] at q1
  have d0 := hf k
  obtain ⟨u0, u0e⟩ : ∃ u, w.cell? ⟨g, k, none⟩ = some u := ⟨_, by have := hc 0 (by omega); rw [Nat.mul_one] at this; exact this⟩
  clear h e1 hc hf
  generalize S.dead.length = n' at *
  generalize X.bt = bt at *
  have hk' : (k : Int) < n' := by omega
  go_enter Tryz.func176, Tryz.ntmps176
  go_wp2_with fail
  go_end0
  obtain ⟨p1, p2⟩ := HP.out w (Ext.refl w)
  exact ⟨rfl, p1.ext (is_ext _ _), (p2.mono (fun j e => by subst e; exact OB.out)).ext (is_ext _ _)⟩
theorem TsAt.setFin {k g cap : Nat} {b : Bool} (h : TsAt w F S X) (hk : k < S.L.length) (hg : X.vl = .slice (some ⟨g, 0, none⟩) S.L.length cap) : TsAt (w.setCell ⟨g, k * 6 + 3, none⟩ (.bool b)) F (S.setFin k b) X ∧ Keep (· = g) w (w.setCell ⟨g, k * 6 + 3, none⟩ (.bool b)) := by
  have hc := h.L
  rw [hg] at hc
  have o1 := hc.store k 3 hk (by omega) (.bool b)
  have K : Keep (· = g) w (w.setCell ⟨g, k * 6 + 3, none⟩ (.bool b)) := (Keep.refl (· = g) w).setCell (p := ⟨g, k * 6 + 3, none⟩) rfl _
  have ob : X.vl.ownBlock = some g := by rw [hg]; rfl
  obtain ⟨_, cs, hb⟩ := h.L.block ob
  have T : ∀ i, tAt (S.setFin k b).L i = if i = k then { tAt S.L k with fin := b } else tAt S.L i := fun i => MS.setFin_at (S := S) k b i (by rw [Int.toNat_natCast]; exact hk)
  have hlen : (S.setFin k b).L.length = S.L.length := MS.setFin_len _ _
  have hF : ∀ i, (tAt (S.setFin k b).L i).F = (tAt S.L i).F := fun i => by
    rw [T]; by_cases e : i = k
    · subst e; rw [if_pos rfl]
    · rw [if_neg e]
  refine ⟨⟨h.bt.keep K (fun e => ?_), h.bF, ?_, h.LF, fun i hi => ?_, fun i hi => h.fF i (by omega), fun i j hi hj => h.ap i j (by omega) hj, h.dead.kt1 hb K (by decide), h.dF, h.col.kt1 hb K (by decide), h.colF⟩, K⟩
  · subst e; exact h.bt.ne hb (by decide) rfl
  · rw [hlen, hg]
    refine o1.congr fun i j hi hj => ?_
    show _ = cT (tAt (S.setFin k b).L i) (X.fs i) j
    rw [T i]
    by_cases he : i = k
    · subst he
      rw [if_pos rfl]
      rcases j with _ | _ | _ | _ | _ | _ | _
      · rw [if_neg (by omega)]; rfl
      · rw [if_neg (by omega)]; rfl
      · rw [if_neg (by omega)]; rfl
      · rw [if_pos ⟨rfl, rfl⟩]; rfl
      · rw [if_neg (by omega)]; rfl
      · rw [if_neg (by omega)]; rfl
      · omega
    · rw [if_neg he, if_neg (fun q => he q.1)]; rfl
  · rw [hF i]
    exact (h.fs i (by omega)).kt1 hb K (by decide)
set_option maxRecDepth 100000 in
set_option maxHeartbeats 2000000 in
theorem tsetfin (h : TsAt w F S X) (k : Nat) (b : Bool) (hk : k < S.L.length) (hn : S.L.length ≤ 1000000) : Calls Tryz.prog 183 #[.pointer (some ⟨X.bt, 0, none⟩), .int .i64 k, .bool b] w fun e w' => e = .returned (.tuple #[]) ∧ TsAt w' F (S.setFin k b) X ∧ Keep (fun g => X.vl.ownBlock = some g) w w' := by
  obtain ⟨q1, q2, q3⟩ := h.bt.rules
  obtain ⟨g, cap, e1, hg, _, _, _, c3, _, _, hf, _⟩ := h.thing k hk
  have HP := Lib.hid (fun (w1 : World) (x : Ext w w1) => (h.ext x).setFin (b := b) hk e1)
  have OB : Hid (X.vl.ownBlock = some g) := Lib.hid (by rw [e1]; rfl)
  rw [e1] at q1
  have d0 := hf (k * 6 + 3)
  clear h e1 hf
  generalize S.L.length = n' at *
  generalize X.bt = bt at *
  have hk' : (k : Int) < n' := by omega
  go_enter Tryz.func183, Tryz.ntmps183
  go_wp2_with fail
  go_end0
  obtain ⟨p1, p2⟩ := HP.out w (Ext.refl w)
  exact ⟨rfl, p1.ext (is_ext _ _), (p2.mono (fun j e => by subst e; exact OB.out)).ext (is_ext _ _)⟩
/-! ### Places -/
set_option maxRecDepth 100000 in
set_option maxHeartbeats 2000000 in
theorem tplaces (h : TsAt w F S X) (wf : S.Wf) : Calls Tryz.prog 180 #[.pointer (some ⟨X.bt, 0, none⟩)] w fun e w' => ∃ A c, e = .returned (.slice A S.places.length c) ∧ OwnI w' w.heap.size (.slice A S.places.length c) S.places ∧ Ext w w' := by
  obtain ⟨i0, hI, hI0, hI1, hI2⟩ := info_parts infoN
  have HH := Lib.hid h
  have hdl := wf.dead
  have hlen := wf.len
  have hlast := wf.last
  have PS : Hid (∀ k, S.dead.getD k false = true → S.placesTo (k + 1) = S.placesTo k) := Lib.hid (fun k hk => by show (if _ then _ else _) = _; rw [if_pos hk])
  have PN : Hid (∀ k, S.dead.getD k false = false → S.placesTo (k + 1) = S.placesTo k ++ [(k : Int)]) := Lib.hid (fun k hk => by show (if _ then _ else _) = _; rw [hk, if_neg (by decide)])
  have PL := Lib.hid (MS.placesTo_len S)
  obtain ⟨q1, q2, q3⟩ := h.bt.rules
  obtain ⟨AL, cL, eL⟩ := h.L.form
  rw [eL] at q1
  unfold MS.places
  clear h wf
  go_enter Tryz.func180, Tryz.ntmps180
  go_wp2_with fail
  clear q1 q2 q3
  go_loopw [3, 10] (fun vv iv wr => ∃ k : Nat, k ≤ S.L.length ∧ iv = .int .i64 k ∧ ∃ A n c, (S.placesTo k).length = n ∧ vv = .slice A n c ∧ OwnI wr w.heap.size (.slice A n c) (S.placesTo k) ∧ Ext w wr) (fun _ iv _ => S.L.length - (intOf iv).toNat)
  case atStart => exact ⟨0, Nat.zero_le _, rfl, none, 0, 0, rfl, rfl, OwnI.nil _ _, Ext.refl _⟩
  case round =>
    obtain ⟨k, hk, rfl, A, n, c, hn, rfl, o, x⟩ := hrel
    have O := Lib.hid o
    have XX := Lib.hid x
    have HN := Lib.hid hn
    clear o x hn
    by_cases hlt : k < S.L.length
    · have kI : (k : Int) < (S.L.length : Int) := by omega
      have H2 := Lib.hid (HH.out.ext XX.out)
      obtain ⟨q1, q2, q3⟩ := H2.out.bt.rules
      obtain ⟨gd, cd, ed, _, _, hgd, hcd, _, _⟩ := H2.out.dead.lt k (by omega)
      have d1 : wr.cell? ⟨gd, k, none⟩ = some (.bool (S.dead.getD k false)) := by
        have := hcd 0 (by omega)
        rw [Nat.mul_one] at this; exact this
      have kD : (k : Int) < (S.dead.length : Int) := by omega
      rw [ed] at q1
      have nk : n ≤ k := by rw [← HN.out]; exact PL.out k
      clear hcd ed
      cases hd : S.dead.getD k false with
      | true =>
        rw [hd] at d1
        have P := Lib.hid (PS.out k hd)
        clear hd
        go_wp2_with fail
        go_roundw
        case rel => exact ⟨k + 1, by omega, by go_num, A, n, c, by rw [P.out]; exact HN.out, rfl, by rw [P.out]; exact O.out, XX.out⟩
        case measure => simp [intOf] <;> omega
      | false =>
        rw [hd] at d1
        have P := Lib.hid (PN.out k hd)
        have o5 := O.out
        unfold OwnI at o5
        rw [HN.out] at o5
        have O5 := Lib.hid (World.ownsRow.alloc o5 (.cells #[.int .i64 (k : Int)] 3))
        have HZ := Lib.hid XX.out.below.size
        clear hd o5
        go_wp2_with ((at_builtin; refine wpList_append_lies _ rfl _ _ _ rfl w.heap.size 3 i0 (.int .i64 0) 1 8 Tryz.underlying25 hI hI0 hI1 hI2 rfl (by decide) (.slice A n c) n ((S.placesTo k).map (Value.int .i64)) (by rfl) O5.out ⟨wr.heap.size, 0, none⟩ 1 1 [.int .i64 (k : Int)] (by rfl) (by rfl) (World.news_of_block (heap_alloc_new wr _)) (by simp [Value.oneCell']) (by omega) (by unfold maxLen; omega) (by omega) (by rw [World.size_alloc]; have := HZ.out; omega) (wr.heap.size + 1) (by rw [World.size_alloc]) ?_; intro gg cc w6 o6 g6 hat6 hlt6))
        have KG : Keep (fun j => Value.ownBlock (.slice A n c) = some j) (wr.alloc (.cells #[.int .i64 (k : Int)] 3)) w6 := ⟨g6.os, g6.tape, g6.output, g6.size, fun k hk hn => g6.block k hk (fun e => hn e.symm)⟩
        have X6 : Ext w w6 := Ext.of_below (Keep.below (XX.out.alloc _).below KG (XX.out.alloc _).below.size (fun j hj e => by have := (O.out.own.block e).1; omega))
        have O7 : OwnI w6 w.heap.size (.slice (some ⟨gg, 0, none⟩) (n + 1) cc) (S.placesTo (k + 1)) := by rw [P.out]; unfold OwnI; rw [List.length_append, List.map_append, HN.out]; exact o6
        exact ⟨⟨k + 1, by omega, by go_num, some ⟨gg, 0, none⟩, n + 1, cc, by rw [P.out, List.length_append, HN.out]; rfl, rfl, O7, X6⟩, by simp [intOf] <;> omega⟩
    · obtain rfl : k = S.L.length := by omega
      go_wp2_with fail
      go_ret
      rw [HN.out]
      exact ⟨A, c, rfl, O.out, XX.out⟩
end
end Go.Proofs.YtjpalcejmloocaaGreat.World
