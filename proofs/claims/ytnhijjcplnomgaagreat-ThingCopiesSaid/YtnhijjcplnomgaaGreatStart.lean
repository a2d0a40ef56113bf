/-
  colloquylaw00: Start.
-/
import Derived.Test.YtnhijjcplnomgaaGreatMeth
namespace Go.Proofs.YtnhijjcplnomgaaGreat.World
open Go.RowKit Go.Proofs.YtnhijjcplnomgaaGreat.Plain
set_option linter.unusedVariables false
attribute [local go_sem ↓] Go.wp_at_zero Go.wp_at_succ

/-- a list of values, one more appended -/
theorem own_val {w3 : World} {lo n gg c9 : Nat} {F : List PV} {v : PV} (hn : F.length = n) (o3 : w3.ownsRow lo 40 2 (.slice (some ⟨gg, 0, none⟩) (n + 1) c9) (n + 1) (flat n 2 (cF F) ++ [.bool v.obj, .int .i64 v.n])) :
    Own w3 lo 40 (.slice (some ⟨gg, 0, none⟩) (n + 1) c9) (F ++ [v]).length 2 (cF (F ++ [v])) := by
  have e : (F ++ [v]).length = n + 1 := by rw [List.length_append, hn]; rfl
  rw [e]
  have o : Own w3 lo 40 (.slice (some ⟨gg, 0, none⟩) (n + 1) c9) (n + 1) 2 (fun i j => if i = n then cV v j else cF F i j) := by
    show w3.ownsRow _ _ _ _ _ _
    rw [flat_succ]
    have e1 : flat n 2 (fun i j => if i = n then cV v j else cF F i j) = flat n 2 (cF F) := by
      unfold flat
      refine List.map_congr_left fun q hq => ?_
      have hq := List.mem_range.1 hq
      have : q / 2 < n := Nat.div_lt_of_lt_mul (by omega)
      simp only
      rw [if_neg (by omega)]
    rw [e1]
    have e2 : (List.range 2).map (fun j => if n = n then cV v j else cF F n j) = [.bool v.obj, .int .i64 v.n] := by
      have e3 : (fun j => if n = n then cV v j else cF F n j) = cV v := by funext j; rw [if_pos rfl]
      rw [e3]; rfl
    rw [e2]; exact o3
  refine o.congr fun i j hi hj => ?_
  have key : ∀ i, vAt (F ++ [v]) i = if i < n then vAt F i else if i = n then v else dV := fun i => by
    unfold vAt
    rw [List.getD_eq_getElem?_getD, List.getD_eq_getElem?_getD]
    by_cases h : i < n
    · rw [if_pos h, List.getElem?_append_left (by omega)]
    · rw [if_neg h, List.getElem?_append_right (by omega), hn]
      by_cases h2 : i = n
      · subst h2; simp
      · rw [if_neg h2, List.getElem?_eq_none (by simp; omega)]; rfl
  by_cases h : i = n
  · subst h
    show (if i = i then cV v j else cF F i j) = cV (vAt (F ++ [v]) i) j
    rw [if_pos rfl, key, if_neg (by omega), if_pos rfl]
  · show (if i = n then cV v j else cF F i j) = cV (vAt (F ++ [v]) i) j
    rw [if_neg h, key, if_pos (by omega)]; rfl
theorem own_flat {w : World} {b g n sz : Nat} {e : TypeId} {c : Nat → Nat → Value} (h : Blk w g e (flat n sz c).toArray) (hb : b ≤ g) (hn : n ≤ 1000000) : Own w b e (.slice (some ⟨g, 0, none⟩) n n) n sz c := by
  refine ⟨flat_len _ _ _, .inr ⟨g, n, _, rfl, hb, h, Nat.le_refl _, by unfold maxLen; omega, by simp [flat_len], ?_⟩⟩
  simp [List.take_of_length_le, flat_len]
theorem own_typ {w : World} {b n sz : Nat} {e : TypeId} {v : Value} {c : Nat → Nat → Value} (h : Own w b e v n sz c) : Typ w v e := fun k hk => (h.block hk).2
def startF (temps meth : Int) (self : PV) (k : Nat) : List PV := [objV 0, num 0, num temps, objV meth, self, objV 0] ++ List.replicate k (objV 0)
theorem startF_len (temps meth : Int) (self : PV) (k : Nat) : (startF temps meth self k).length = 6 + k := by unfold startF; simp; omega
theorem startF_succ (temps meth : Int) (self : PV) (k : Nat) : startF temps meth self (k + 1) = startF temps meth self k ++ [objV 0] := by
  unfold startF; rw [List.replicate_succ', List.append_assoc]
def PW.start (W : PW) (meth temps : Int) (self : PV) (level : Int) : PW := (W.add 12 1 (startF temps meth self 16) ByteArray.empty).add 14 1 [objV W.L.length, num level] ByteArray.empty
set_option maxRecDepth 100000 in
set_option maxHeartbeats 1000000 in
theorem bstart {w : World} {lo b : Nat} {W : PW} {x : WV} (h : BAt w lo b W x) (hlo : lo ≤ w.heap.size) (meth temps level : Int) (self : PV) (hn : W.L.length ≤ 90000) (hl : -90000 ≤ W.last ∧ W.last ≤ 90000) :
    Calls Tryz.prog 17 #[.pointer (some ⟨b, 0, none⟩), .int .i64 meth, .int .i64 temps, val self, .int .i64 level] w fun e w' => e = .returned (.tuple #[.int .i64 (W.L.length + 1 : Nat), .int .i64 W.L.length]) ∧ (∃ x', BAt w' lo b (W.start meth temps self level) x') ∧ Keep (fun j => j = b ∨ lo ≤ j) w w' := by
  have HN := Lib.hid lnum
  have HO := Lib.hid lobj
  unfold val num at HN
  unfold val objV at HO
  have HH := Lib.hid h
  have l1 := hl.1
  have l2 := hl.2
  clear h hl
  obtain ⟨so, sn⟩ := self
  unfold val
  go_enter Tryz.func17, Tryz.ntmps17
  go_upto_region 1 with (fail)
  refine wp_name (fun w0 hW => ?_)
  have BX := Lib.hid (show Blk w0 w.heap.size 40 #[.bool so, .int .i64 sn] from by rw [hW]; exact Blk.new _ _ _)
  have x0 : Ext w w0 := by rw [hW]; exact is_ext _ _
  have X0 := Lib.hid x0
  obtain ⟨u1, u2, u3⟩ := BX.out.rules
  have v1 := u1 0
  have v2 := u1 1
  simp only [List.getElem?_toArray, List.getElem?_cons_zero, List.getElem?_cons_succ] at v1 v2
  clear hW x0
  generalize hg : w.heap.size = g at *
  go_region_held3 (fun w' => w'.cell? ⟨g, 0, none⟩ = some (.bool so) ∧ w'.cell? ⟨g, 1, none⟩ = some (.int .i64 sn)) (first | go_keep) ((first | (go_at_call 16; refine (HO.out _ _).mono ?_; rintro e w2 ⟨rfl, x2⟩; have i2 : IsExt w0 w2 := ⟨(is_ext w0 _).trans x2⟩; clear x2; obtain ⟨u1, u2, u3⟩ := (BX.out.ext i2.out).rules) | (go_at_call 15; refine (HN.out _ _).mono ?_; rintro e w2 ⟨rfl, x2⟩; have i2 : IsExt w0 w2 := ⟨(is_ext w0 _).trans x2⟩; clear x2; obtain ⟨u1, u2, u3⟩ := (BX.out.ext i2.out).rules)))
  obtain ⟨iV, iV1, iV2, iV3, iV4⟩ := info_parts infoV
  refine then_name (fun w5 hW => ?_)
  have x5 : Ext w w5 := by rw [hW]; exact ((X0.out.trans i2.out).alloc _)
  have lo5 : g ≤ w2.heap.size := by rw [← hg]; exact (X0.out.trans i2.out).below.size
  have O5 : Hid (Own w5 g 40 (.slice (some ⟨w2.heap.size, 0, none⟩) 6 6) (6 + 0) 2 (cF (startF temps meth ⟨so, sn⟩ 0))) := Lib.hid (own_flat (n := 6) (by rw [hW]; exact Blk.new _ _ _) lo5 (by omega))
  have X5 := Lib.hid x5
  clear hW x5 lo5 u1 u2 u3 v1 v2 BX X0 i2
  generalize w2.heap.size = g2 at *
  go_wp2_with fail
  go_loopw [12, 13] (fun v iv wr => ∃ k : Nat, k ≤ 16 ∧ iv = .int .i64 k ∧ ∃ A c, v = .slice A (6 + k) c ∧ Own wr g 40 (.slice A (6 + k) c) (6 + k) 2 (cF (startF temps meth ⟨so, sn⟩ k)) ∧ Ext w wr) (fun v iv _ => 16 - (intOf iv).toNat)
  case atStart => exact ⟨0, by omega, rfl, _, _, rfl, O5.out, X5.out⟩
  case round =>
    obtain ⟨k, hk, rfl, A, c, rfl, ok, xk⟩ := hrel
    have OK := Lib.hid ok
    have XK := Lib.hid xk
    clear ok xk O5 X5
    by_cases hlt : k < 16
    · have iI : (k : Int) < 16 := by omega
      have tok1 : True := trivial
      go_wp2_with (first | (go_at_call 16; refine (HO.out _ _).mono ?_; rintro e w2 ⟨rfl, x2⟩; have X2 := Lib.hid (XK.out.trans x2); have O2 : Hid (w2.ownsRow g 40 2 (.slice A (6 + k) c) (6 + k) (flat (6 + k) 2 (cF (startF temps meth ⟨so, sn⟩ k)))) := Lib.hid (OK.out.ext x2); have s2 := X2.out.below.size; rw [hg] at s2; clear x2) | (at_builtin; refine wpList_append_lies _ rfl _ _ _ rfl g 40 iV (.agg #[.bool false, .int .i64 0]) 2 16 Tryz.underlying42 iV1 iV2 iV3 iV4 rfl (by decide) _ _ _ (by rfl) (World.ownsRow.alloc O2.out _) ⟨w2.heap.size, 0, none⟩ 1 1 [.bool true, .int .i64 0] (by rfl) (by rfl) (World.news_of_block (heap_alloc_new w2 _)) (by simp [Value.oneCell']) (by omega) (by unfold maxLen; omega) (by omega) (by simp; omega) (w2.heap.size + 1) (by simp) ?_; intro gg c9 w3 o3 g3 hat hlt3))
      have X3 : Hid (Ext w w3) := Lib.hid (by
        have kp := grow_keep g3
        refine Ext.of_below (Keep.below X2.out.below kp X2.out.below.size (fun i hi e => ?_))
        have o2 : Own w2 g 40 (.slice A (6 + k) c) (6 + k) 2 (cF (startF temps meth ⟨so, sn⟩ k)) := O2.out
        have := (o2.block e).1
        omega)
      have O3 : Hid (Own w3 g 40 (.slice (some ⟨gg, 0, none⟩) (6 + (k + 1)) c9) (6 + (k + 1)) 2 (cF (startF temps meth ⟨so, sn⟩ (k + 1)))) := Lib.hid (by
        have q := own_val (v := objV 0) (startF_len temps meth ⟨so, sn⟩ k) o3
        rw [← startF_succ, startF_len] at q
        exact q)
      clear o3 g3 hat hlt3 O2 X2
      go_roundw
      case rel => exact ⟨k + 1, by omega, by go_num, _, _, rfl, O3.out, X3.out⟩
      case measure => simp [intOf]; omega
    · obtain rfl : k = 16 := by omega
      have h1 := HH.out.ext XK.out
      have lo1 : lo ≤ wr.heap.size := by have q := XK.out.below.size; omega
      have hv : ValsAt wr (.slice A (6 + 16) c) (startF temps meth ⟨so, sn⟩ 16) := by
        have q := OK.out.row
        show Row wr _ (startF temps meth ⟨so, sn⟩ 16).length 2 _
        rw [startF_len]; exact q
      have C := Lib.hid (badd h1 lo1 hv (own_typ OK.out) 12 1 ByteArray.empty (by omega) (by omega))
      have K1 := Lib.hid (Keep.of_ext XK.out (fun j => j = b ∨ lo ≤ j))
      clear h1 hv OK XK
      go_wp2_with fail
      refine C.out.mono ?_
      rintro e w6 ⟨rfl, x6, h6, k6⟩
      have lo6 : lo ≤ w6.heap.size := Nat.le_trans lo1 k6.size
      have K6 := Lib.hid (K1.out.trans (k6.mono (fun j hj => hj.imp id (fun e => (HH.out.bu.L.block e).1))))
      have H6 := Lib.hid h6
      clear h6 k6 K1 C
      generalize hn0 : W.L.length = n at *
      go_wp2_with (first | (go_at_call 15; refine (HN.out _ _).mono ?_; rintro e w7 ⟨rfl, x7⟩; have i7 : IsExt w6 w7 := ⟨(is_ext w6 _).trans x7⟩; clear x7) | (go_at_call 16; refine (HO.out _ _).mono ?_; rintro e w8 ⟨rfl, x8⟩; have i8 : IsExt w6 w8 := ⟨(is_ext w6 _).trans x8⟩; clear x8))
      refine calls_name (fun w9 hW => ?_)
      have x9 : Ext w6 w9 := by rw [hW]; exact is_ext _ _
      have b9 : Blk w9 w7.heap.size 40 (flat 2 2 (cF [objV n, num level])).toArray := by rw [hW]; exact Blk.new _ _ _
      have lo9 : lo ≤ w9.heap.size := Nat.le_trans lo6 x9.below.size
      have e9 : (W.add 12 1 (startF temps meth ⟨so, sn⟩ 16) ByteArray.empty).L.length = n + 1 := by unfold PW.add; simp [hn0]
      have D := badd (F := [objV n, num level]) (H6.out.ext x9) lo9 (row_flat (n := 2) b9 (by omega)) (typ_blk b9) 14 1 ByteArray.empty (by omega) (by show _ ≤ W.last + 1 ∧ W.last + 1 ≤ _; omega)
      rw [e9] at D
      have DH := Lib.hid D
      have K9 := Lib.hid (K6.out.ext x9)
      clear hW b9 D x9 K6
      refine DH.out.mono ?_
      rintro e wa ⟨rfl, xa, ha, ka⟩
      have P : Hid ((∃ x', BAt wa lo b (W.start meth temps ⟨so, sn⟩ level) x') ∧ Keep (fun j => j = b ∨ lo ≤ j) w wa) := Lib.hid ⟨⟨xa, by unfold PW.start; rw [hn0]; exact ha⟩, K9.out.trans (ka.mono (fun j hj => hj.imp id (fun e => (H6.out.bu.L.block e).1)))⟩
      clear ha ka K9 DH
      go_wp2_with fail
      go_ret2
      subst hn0
      exact ⟨by simp, P.out⟩
end Go.Proofs.YtnhijjcplnomgaaGreat.World
