/-
  Bytes3, Read5, as one text (a claim has at most 60 files).
-/
import Derived.Test.YtadhkmplhgcgkaaMc26
import Derived.Test.YtadhkmplhgcgkaaMc10
import Derived.Laws.BytesString
namespace Go.Proofs.Ytadhkmplhgcgkaa.World
open Go.RowKit Go.Proofs.Ytadhkmplhgcgkaa.Plain
set_option linter.unusedVariables false
attribute [local go_sem ↓] Go.wp_at_zero Go.wp_at_succ
def kindT (t : PT) : Int := t.fmt + (if t.fin = true then 4 else 0)
def bytesI (s : ByteArray) : List Int := s.data.toList.map (fun b => (b.toNat : Int))
theorem bytesI_len (s : ByteArray) : (bytesI s).length = s.size := by unfold bytesI; rw [List.length_map, Array.length_toList]; rfl
theorem bytesI_cells (s : ByteArray) : (bytesI s).map (Value.int .u8) = Lib.strCells s := by
  unfold bytesI Lib.strCells
  rw [List.map_map]; rfl
/-- a thing's bytes -/
def encT (t : PT) : List Int := b4 t.cls ++ b4 (kindT t) ++ b4 t.hash ++ (if t.fmt = 3 then b4 t.B.size ++ bytesI t.B else b4 t.F.length ++ t.F.flatMap (fun u => b4 (valW u)))
theorem flatV_len (l : List PV) : (l.flatMap (fun u => b4 (valW u))).length = 4 * l.length := by
  induction l with
  | nil => rfl
  | cons a l ih => rw [List.flatMap_cons, List.length_append, ih, b4_len, List.length_cons]; omega
theorem flatV_take (l : List PV) (k : Nat) (hk : k < l.length) : (l.take (k + 1)).flatMap (fun u => b4 (valW u)) = (l.take k).flatMap (fun u => b4 (valW u)) ++ b4 (valW (vAt l k)) := by
  unfold vAt
  rw [List.take_succ_eq_append_getElem hk, List.flatMap_append, List.getD_eq_getElem?_getD, List.getElem?_eq_getElem hk]
  simp
/-- a thing that is put -/
structure PutOk (t : PT) : Prop where
  cls : 0 ≤ t.cls ∧ t.cls ≤ 100000
  hash : 0 ≤ t.hash ∧ t.hash ≤ 100000
  fmt : 1 ≤ t.fmt ∧ t.fmt ≤ 3
  B : t.B.size ≤ 100000
  F : t.F.length ≤ 100000
  n : ∀ k, k < t.F.length → in64 (vAt t.F k).n
theorem step_append_str {P : Program} {w : World} {ops : Array Oper} {o : Oper} {a : Act} {K : Act → World → Prop} {Q : Exit → Act → World → Prop} {E : Prop} (hgd : o.guard = none) (sl x : Operand) (t u : TypeId)
    (ho : o.op = .call { callee := .builtin .append, args := #[sl, x], argTypes := #[t, u] })
    (base : Nat) (e : TypeId) (i : TypeInfo) (ht : P.underlying t = some (.slice e)) (hu : P.underlying u = some .string) (hi : P.info? e = some i) (hz : i.zero = some (.int .u8 0))
    (hsize : i.size = 1) (hby : i.bytes = 1)
    (v : Value) (n : Nat) (xs : List Value) (hs : a.eval sl = v) (hown : w.ownsRow base e 1 v n xs) (s : ByteArray) (hx : a.eval x = .string s)
    (h63 : n + s.size ≤ maxLen) (hbytes : n + s.size ≤ 140737488355328) (hbase : base ≤ w.heap.size)
    (h : ∀ v' w', w'.ownsRow base e 1 v' (n + s.size) (xs ++ Lib.strCells s) → w.grownBy w' v.ownBlock → (v' = .slice none 0 0 ↔ v = .slice none 0 0 ∧ s.size = 0) → K (a.put o.dst v') w') :
    if Region.wanted o (yielded ops a.tmps) = true then Oper.wp P o a w K Q else E := by
  have hw : Region.wanted o (yielded ops a.tmps) = true := by simp [Region.wanted, hgd]
  rw [if_pos hw]
  obtain ⟨v', w', hr, h2, h3, h4⟩ := Lib.run_append_own_string (P := P) w base t u o.type e i ht hu hi hz hsize hby v n xs hown s h63 hbytes hbase
  unfold Oper.wp execOp
  simp only [ho, resolve, invoke, builtin, Sem.run_bind, Sem.run_pure, Result.andThen_ok, List.map_toArray, List.map_cons, List.map_nil, hs, hx, hr]
  exact h v' w' h2 h3 h4
theorem NB.str {w0 ws w w6 : World} {v v' : Value} {zs : List Int} {m q : Nat} {T : TypeId} {cs : Array Value} {s : ByteArray} (h : NB w0 ws v zs m q T cs w) (o : w6.ownsRow w0.heap.size 5 1 v' (zs.length + s.size) (zs.map (Value.int .u8) ++ Lib.strCells s)) (g : w.grownBy w6 v.ownBlock) (hm : 0 < m) :
    ∃ A c, v' = .slice A (m + s.size) c ∧ NB w0 ws (.slice A (m + s.size) c) (zs ++ bytesI s) (m + s.size) q T cs w6 := by
  obtain ⟨gd, cd, e, _⟩ := o.form (by have := h.len; omega)
  rw [h.len] at e
  subst e
  have KW : Keep (fun j => v.ownBlock = some j) w w6 := ⟨g.os, g.tape, g.output, g.size, fun k hk hn => g.block k hk (fun e => hn e.symm)⟩
  obtain ⟨k, x⟩ := h.own.keep h.x rfl KW
  have l : (zs ++ bytesI s).length = m + s.size := by rw [List.length_append, bytesI_len, h.len]
  refine ⟨_, _, rfl, h.next ?_ l x k⟩
  unfold OwnB
  rw [l, List.map_append, bytesI_cells]
  rw [h.len] at o
  exact o
section
variable {w w0 : World}
set_option maxRecDepth 100000 in
set_option maxHeartbeats 4000000 in
theorem putT {v vF : Value} {zs : List Int} {t : PT} {m : Nat} (h : OwnB w w0.heap.size v zs) (hm : zs.length = m) (hz : m ≤ 5000000) (x0 : Ext w0 w) (hF : ValsAt w0 vF t.F) (ok : PutOk t) :
    Calls Try.prog 41 #[v, .agg (aggT t vF)] w fun e w' => ∃ A c n, e = .returned (.slice A n c) ∧ OwnB w' w0.heap.size (.slice A n c) (zs ++ encT t) ∧ (zs ++ encT t).length = n ∧ KT [5] w w' ∧ Ext w0 w' := by
  subst hm
  obtain ⟨A0, c0, rfl⟩ := h.form
  obtain ⟨Af, cf, e1, l1, l2⟩ := Row.form hF
  replace e1 : vF = .slice Af t.F.length cf := e1
  subst e1
  obtain ⟨i0, hi, hz0, hz1, hz2⟩ := info_parts infoU
  have HH := Lib.hid h
  have X0 := Lib.hid x0
  have HV := Lib.hid hF
  have HN := Lib.hid ok.n
  obtain ⟨⟨c1, c2⟩, ⟨h1, h2⟩, ⟨f1, f2⟩, hB, hFl, _⟩ := ok
  have ET : Hid (encT t = b4 t.cls ++ b4 (kindT t) ++ b4 t.hash ++ (if t.fmt = 3 then b4 t.B.size ++ bytesI t.B else b4 t.F.length ++ t.F.flatMap (fun u => b4 (valW u)))) := Lib.hid rfl
  have EK : Hid (kindT t = t.fmt + (if t.fin = true then 4 else 0)) := Lib.hid rfl
  clear h x0 hF
  unfold aggT
  generalize encT t = enc at *
  generalize kindT t = kd at *
  obtain ⟨tc, tf, th, tn, F, tB⟩ := t
  simp only at c1 c2 h1 h2 f1 f2 hB hFl ET EK HN HV l1 l2 ⊢
  generalize hm : zs.length = m at *
  have HM := Lib.hid hm
  clear hm
  have hk0 : 0 ≤ kd ∧ kd < 4294967296 := by rw [EK.out]; split <;> omega
  obtain ⟨hk0, hk1⟩ := hk0
  go_enter Try.func41, Try.ntmps41
  go_upto_region 1 with (fail)
  refine wp_name (fun w1 hw => ?_)
  have b3 : Blk w1 w.heap.size 57 #[.int .i64 tc, .int .i64 tf, .int .i64 th, .bool tn, .slice Af F.length cf, .string tB] := Blk.new' hw
  have x1 : Ext w w1 := (Ext.refl w).alloc' hw
  have X1 := Lib.hid (X0.out.trans x1)
  have K1 : Hid (KT [5] w w1) := Lib.hid (Keep.of_ext x1 _)
  have H1 := Lib.hid (HH.out.ext x1)
  have B3 := Lib.hid b3
  generalize w.heap.size = q at *
  obtain ⟨r1, r2, r3⟩ := b3.rules
  clear hw x1 b3 HH
  have q0 : w1.cell? ⟨q, 0, none⟩ = some (.int .i64 tc) := r1 0
  have q1 : w1.cell? ⟨q, 1, none⟩ = some (.int .i64 tf) := r1 1
  have q2 : w1.cell? ⟨q, 2, none⟩ = some (.int .i64 th) := r1 2
  have q3 : w1.cell? ⟨q, 3, none⟩ = some (.bool tn) := r1 3
  have tcw : 0 ≤ tc ∧ tc < 4294967296 := by omega
  have thw : 0 ≤ th ∧ th < 4294967296 := by omega
  have hwc : IntKind.u32.wrap tc = tc := IntWalk.u32_in _ (by omega)
  have hwh : IntKind.u32.wrap th = th := IntWalk.u32_in _ (by omega)
  have N1 : Hid (NB w0 w (.slice A0 m c0) zs m q 57 #[.int .i64 tc, .int .i64 tf, .int .i64 th, .bool tn, .slice Af F.length cf, .string tB] w1) := Lib.hid ⟨H1.out, HM.out, X1.out, K1.out, B3.out, by decide⟩
  have C1 := Lib.hid (fun W2 (z : Ext w1 W2) => number2 (N1.out.ext z) (by omega) tcw.1 tcw.2)
  have KW := Lib.hid hk0
  have KV := Lib.hid hk1
  clear r1 r2 hk0 hk1 X1 K1 H1 B3 X0
  cases tn
  case' true => obtain rfl : kd = tf + 4 := by rw [EK.out]; rfl
  case' false =>
    have ek : tf = kd := by rw [EK.out]; simp
    subst ek
  all_goals
    have kw := And.intro KW.out KV.out
    clear EK KW KV
    go_upto_region 4 with (fail)
    go_region_held3 (fun w' => w'.cell? ⟨q, 0, none⟩ = some (.int .i64 tc) ∧ w'.cell? ⟨q, 2, none⟩ = some (.int .i64 th)) (first | go_keep | exact ⟨q0, q2⟩ | exact ⟨z0, z2⟩) ((first | (go_at_call 40; refine (C3.out _ (is_ext w3 _)).mono ?_; rintro e w4 ⟨A4, c4, rfl, o⟩; have N4 := Lib.hid o; have z0 : w4.cell? ⟨q, 0, none⟩ = some (.int .i64 tc) := o.b.cell 0; have z2 : w4.cell? ⟨q, 2, none⟩ = some (.int .i64 th) := o.b.cell 2; clear o) | (go_at_call 40; refine (C2.out _ (is_ext w2 _)).mono ?_; rintro e w3 ⟨A3, c3, rfl, o⟩; have N3 := Lib.hid o; have z0 : w3.cell? ⟨q, 0, none⟩ = some (.int .i64 tc) := o.b.cell 0; have z2 : w3.cell? ⟨q, 2, none⟩ = some (.int .i64 th) := o.b.cell 2; clear o; have C3 := Lib.hid (fun W2 (z : Ext w3 W2) => number2 (N3.out.ext z) (by omega) thw.1 thw.2)) | (go_at_call 40; refine (C1.out _ (is_ext w1 _)).mono ?_; rintro e w2 ⟨A2, c2, rfl, o⟩; have N2 := Lib.hid o; have z0 : w2.cell? ⟨q, 0, none⟩ = some (.int .i64 tc) := o.b.cell 0; have z2 : w2.cell? ⟨q, 2, none⟩ = some (.int .i64 th) := o.b.cell 2; clear o; have C2 := Lib.hid (fun W2 (z : Ext w2 W2) => number2 (N2.out.ext z) (by omega) kw.1 kw.2))))
    have ET' := Lib.hid ET.out
    have T12 : Hid ((zs ++ b4 tc ++ b4 _ ++ b4 th).length = m + 4 + 4 + 4) := Lib.hid N4.out.len
    clear ET z0 z2 q0 q1 q2 q3 C1 C2 C3 N1 N2 N3
    obtain ⟨s1, s2, s3⟩ := N4.out.b.rules
    by_cases hf : tf = 3
    · have ff : (tf == 3) = true := by simp [hf]
      have HF3 := Lib.hid hf
      have q5 : w4.cell? ⟨q, 5, none⟩ = some (.string tB) := s1 5
      clear hf
      have hwb : IntKind.u32.wrap (tB.size : Int) = (tB.size : Int) := IntWalk.u32_in _ (by omega)
      have C4 := Lib.hid (fun W2 (z : Ext w4 W2) => number2 (n := (tB.size : Int)) (N4.out.ext z) (by omega) (by omega) (by omega))
      go_upto_region 6 with (fail)
      go_region_held3 (fun w' => w'.cell? ⟨q, 5, none⟩ = some (.string tB)) (first | go_keep | exact q5 | exact z5 | exact z6) ((first | (go_at_call 40; refine (C4.out _ (is_ext w4 _)).mono ?_; rintro e w5 ⟨A5, c5, rfl, o⟩; have N5 := Lib.hid o; have z5 : w5.cell? ⟨q, 5, none⟩ = some (.string tB) := o.b.cell 5; clear o) | (refine step_append_str (by rfl) _ _ _ _ (by rfl) w0.heap.size 5 i0 Try.underlying45 Try.underlying9 hi hz0 hz1 hz2 _ _ _ (by rfl) (N5.out.ext (is_ext w5 _)).own _ (by rfl) (by have := N5.out.len; unfold maxLen; omega) (by have := N5.out.len; omega) (N5.out.ext (is_ext w5 _)).x.below.size ?_; intro v' w6 o6 g6 _; obtain ⟨A6, c6, e6, n6⟩ := NB.str (N5.out.ext (is_ext w5 _)) o6 g6 (by omega); subst e6; have N6 := Lib.hid n6; have z6 : w6.cell? ⟨q, 5, none⟩ = some (.string tB) := n6.b.cell 5; clear o6 g6 n6)))
      all_goals
        go_wp2_with fail
        go_ret
        have q := N6.out
        refine ⟨_, _, _, rfl, ?_, ?_, q.k, q.x⟩
        · rw [ET'.out, if_pos HF3.out, ← List.append_assoc, ← List.append_assoc, ← List.append_assoc, ← List.append_assoc]; exact q.own
        · rw [ET'.out, if_pos HF3.out, ← List.append_assoc, ← List.append_assoc, ← List.append_assoc, ← List.append_assoc]; exact q.len
    · have ff : (tf == 3) = false := by simp [hf]
      have HF3 := Lib.hid hf
      clear hf
      have hwf : IntKind.u32.wrap (F.length : Int) = (F.length : Int) := IntWalk.u32_in _ (by omega)
      have FT := Lib.hid (flatV_take F)
      have L4 := Lib.hid (N4.out.len)
      go_wp2_with (go_at_call 40; refine (number2 (n := (F.length : Int)) N4.out (by omega) (by omega) (by omega)).mono ?_; rintro e w5 ⟨A5, c5, rfl, o⟩; have N5 := Lib.hid o; clear s1 s2 s3; obtain ⟨s1, s2, s3⟩ := o.b.rules; clear o)
      clear s1 s2 s3
      go_loopw [0, 7, 47] (fun u0 u7 iv wr => ∃ (i : Nat) (A : Option Addr) (c n : Nat), i ≤ F.length ∧ iv = .int .i64 i ∧ u0 = .slice A n c ∧ n = m + 4 + 4 + 4 + 4 + 4 * i ∧ NB w0 w (.slice A n c) (zs ++ b4 tc ++ b4 _ ++ b4 th ++ b4 (F.length : Int) ++ (F.take i).flatMap (fun u => b4 (valW u))) n q 57 #[.int .i64 tc, .int .i64 tf, .int .i64 th, .bool _, .slice Af F.length cf, .string tB] wr) (fun _ _ iv _ => F.length - (intOf iv).toNat)
      case atStart => exact ⟨0, A5, c5, _, Nat.zero_le _, rfl, rfl, rfl, by rw [List.take_zero]; simpa using N5.out⟩
      case round =>
        clear N5
        obtain ⟨i, A, c, n, hiF, rfl, rfl, hn, N⟩ := hrel
        have NH := Lib.hid N
        have HNn := Lib.hid hn
        by_cases hlt : i < F.length
        · have iI : (i : Int) < (F.length : Int) := by omega
          obtain ⟨bF, oF, rfl, hbF, hcF⟩ := Row.at_ (Row.ext HV.out N.x) i hlt
          have z0 : wr.cell? ⟨bF, oF + i * 2, none⟩ = some (.bool (vAt F i).obj) := hcF 0 (by omega)
          have z1 : wr.cell? ⟨bF, oF + i * 2 + 1, none⟩ = some (.int .i64 (vAt F i).n) := hcF 1 (by omega)
          have FTi := Lib.hid (FT.out i hlt)
          have INi := Lib.hid (HN.out i hlt)
          have VI := Lib.hid (valW_in _ (HN.out i hlt))
          clear hcF N hn
          generalize vAt F i = u at *
          obtain ⟨uo, un⟩ := u
          simp only at z0 z1
          have hn6 : n ≤ 10000000 := by have := HNn.out; omega
          go_wp2_with ((first | (go_at_call 84; refine (valueN uo un INi.out _).mono ?_; rintro e w6 ⟨rfl, x6⟩; have N6 := Lib.hid ((NH.out.ext ((Ext.refl _).alloc _)).ext x6); clear x6) | (go_at_call 40; refine (number2 N6.out hn6 VI.out.1 VI.out.2).mono ?_; rintro e w7 ⟨A7, c7, rfl, o⟩; have N7 := Lib.hid o; clear o)))
          go_roundw
          case rel => exact ⟨i + 1, A7, c7, _, by omega, by go_num, rfl, by rw [HNn.out]; omega, by rw [FTi.out, ← List.append_assoc]; exact N7.out⟩
          case measure => simp [intOf] <;> omega
        · obtain rfl : i = F.length := by omega
          clear N hn
          go_wp2_with fail
          go_ret
          have q := NH.out
          rw [List.take_length] at q
          refine ⟨_, _, _, rfl, ?_, ?_, q.k, q.x⟩
          · rw [ET'.out, if_neg HF3.out, ← List.append_assoc, ← List.append_assoc, ← List.append_assoc, ← List.append_assoc]; exact q.own
          · rw [ET'.out, if_neg HF3.out, ← List.append_assoc, ← List.append_assoc, ← List.append_assoc, ← List.append_assoc]; exact q.len
end
end Go.Proofs.Ytadhkmplhgcgkaa.World
namespace Go.Proofs.Ytadhkmplhgcgkaa.World
open Go.RowKit Go.Proofs.Ytadhkmplhgcgkaa.Plain
set_option linter.unusedVariables false
theorem and4_nat (n : Nat) : n &&& 4 = n / 4 % 2 * 4 := by
  have h1 : (n &&& 4) % 2 ^ 3 = (n % 2 ^ 3) &&& (4 % 2 ^ 3) := Nat.and_mod_two_pow
  have h2 : (n &&& 4) / 2 / 2 / 2 = 0 := by rw [Nat.and_div_two, Nat.and_div_two, Nat.and_div_two]; exact Nat.and_zero _
  have h3 : ∀ r, r < 8 → r &&& 4 = r / 4 % 2 * 4 := by decide
  have h4 := h3 (n % 8) (Nat.mod_lt _ (by decide))
  have e : (n % 2 ^ 3) &&& (4 % 2 ^ 3) = n % 8 &&& 4 := rfl
  rw [e, h4] at h1
  have e8 : (2 : Nat) ^ 3 = 8 := rfl
  rw [e8] at h1
  omega
theorem nand4_nat (n : Nat) (h : n < 4294967296) : n &&& 4294967291 = n - n / 4 % 2 * 4 := by
  have h1 : (n &&& 4294967291) % 2 ^ 3 = (n % 2 ^ 3) &&& (4294967291 % 2 ^ 3) := Nat.and_mod_two_pow
  have h2 : (n &&& 4294967291) / 2 / 2 / 2 = n / 8 := by
    rw [Nat.and_div_two, Nat.and_div_two, Nat.and_div_two]
    have e : n / 2 / 2 / 2 = n / 8 := by omega
    rw [e]
    have := Nat.and_two_pow_sub_one_eq_mod (n / 8) 29
    have e2 : (4294967291 / 2 / 2 / 2 : Nat) = 2 ^ 29 - 1 := rfl
    rw [e2, this]
    exact Nat.mod_eq_of_lt (by omega)
  have h3 : ∀ r, r < 8 → r &&& 3 = r - r / 4 % 2 * 4 := by decide
  have h4 := h3 (n % 8) (Nat.mod_lt _ (by decide))
  have e : (n % 2 ^ 3) &&& (4294967291 % 2 ^ 3) = n % 8 &&& 3 := rfl
  rw [e, h4] at h1
  have e8 : (2 : Nat) ^ 3 = 8 := rfl
  rw [e8] at h1
  omega
theorem band4 (x : Int) (h0 : 0 ≤ x) (h1 : x < 4294967296) : bits .and .u32 x 4 = x / 4 % 2 * 4 := by
  obtain ⟨n, rfl⟩ := Int.eq_ofNat_of_zero_le h0
  have h := u32_and_nat n 4 (by omega) (by omega)
  rw [and4_nat] at h
  have e : ((n / 4 % 2 * 4 : Nat) : Int) = (n : Int) / 4 % 2 * 4 := by omega
  rw [← e]; exact h
theorem bnand4 (x : Int) (h0 : 0 ≤ x) (h1 : x < 4294967296) : bits .andNot .u32 x 4 = x - x / 4 % 2 * 4 := by
  obtain ⟨n, rfl⟩ := Int.eq_ofNat_of_zero_le h0
  have h := u32_andNot_nat n 4 (by omega) (by omega)
  rw [show (4294967295 - 4 : Nat) = 4294967291 from rfl, nand4_nat n (by omega)] at h
  have e : ((n - n / 4 % 2 * 4 : Nat) : Int) = (n : Int) - (n : Int) / 4 % 2 * 4 := by omega
  rw [← e]; exact h
/-- bytes as a string -/
def strI (l : List Int) : ByteArray := l.foldl (fun r n => r.push (UInt8.ofNat n.toNat)) ByteArray.empty
theorem strI_push (l : List Int) (x : Int) : strI (l ++ [x]) = (strI l).push (UInt8.ofNat x.toNat) := by unfold strI; rw [List.foldl_append]; rfl
theorem bytesI_str : ∀ (n : Nat) (l : List Int), l.length = n → okB l → bytesI (strI l) = l
  | 0, l, hl, _ => by rw [List.eq_nil_of_length_eq_zero hl]; rfl
  | n + 1, l, hl, h => by
    rcases List.eq_nil_or_concat l with rfl | ⟨l', x, rfl⟩
    · rfl
    · rw [List.concat_eq_append] at *
      have ih := bytesI_str n l' (by simpa using hl) (fun y hy => h y (by simp [hy]))
      obtain ⟨x0, x1⟩ := h x (by simp)
      rw [strI_push]
      have e : bytesI ((strI l').push (UInt8.ofNat x.toNat)) = bytesI (strI l') ++ [((UInt8.ofNat x.toNat).toNat : Int)] := by
        unfold bytesI
        show List.map _ ((strI l').data.push _).toList = _
        rw [Array.toList_push, List.map_append]; rfl
      rw [e, ih]
      have e2 : ((UInt8.ofNat x.toNat).toNat : Int) = x := by
        rw [UInt8.toNat_ofNat']
        omega
      rw [e2]
/-- what is a thing's kind -/
def fmtK (k : Int) : Int := k - k / 4 % 2 * 4
def finK (k : Int) : Bool := k / 4 % 2 * 4 != 0
/-- so many fields -/
def valsR : Nat → RdS → List PV × RdS
  | 0, s => ([], s)
  | k + 1, s => ((valsR k s).1 ++ [(valR (valsR k s).2).1], (valR (valsR k s).2).2)
def kindR (s : RdS) : RdS := if fmtK (numR s).1 < 1 ∨ 3 < fmtK (numR s).1 then wrongR 4 (numR s).2 else (numR s).2
def restR (s : RdS) : RdS := kindR (numR s).2
def bodyR (c k h : Int) (s : RdS) : PT × RdS :=
  if fmtK k = 3 then (⟨c, fmtK k, h, finK k, [], strI (takeR (countR 1 s).1.toNat (countR 1 s).2).1⟩, (takeR (countR 1 s).1.toNat (countR 1 s).2).2)
  else (⟨c, fmtK k, h, finK k, (valsR (countR 4 s).1.toNat (countR 4 s).2).1, ByteArray.empty⟩, (valsR (countR 4 s).1.toNat (countR 4 s).2).2)
/-- the next thing -/
def thingR (s : RdS) : PT × RdS := bodyR (numR s).1 (numR (numR s).2).1 (numR (restR s)).1 (numR (restR s)).2
theorem vals_len : ∀ (k : Nat) (s : RdS), (valsR k s).1.length = k
  | 0, _ => rfl
  | k + 1, s => by show ((valsR k s).1 ++ [_]).length = k + 1; rw [List.length_append, vals_len k s]; rfl
theorem okB_vals : ∀ (k : Nat) {s : RdS}, okB s.b → okB (valsR k s).2.b
  | 0, _, h => h
  | k + 1, s, h => okB_val (okB_vals k h)
theorem okB_kind {s : RdS} (h : okB s.b) : okB (kindR s).b := by unfold kindR; split; exact okB_wrong (okB_num h); exact okB_num h
set_option maxRecDepth 100000 in
theorem conv_str {W : World} {A : Option Addr} {n c : Nat} {l : List Int} (h : Row W (.slice A n c) l.length 1 (cU l)) : (convert 45 9 (.slice A n c)).run Try.prog W = .ok (.string (strI l)) W := by
  obtain ⟨A', c', e, h1, h2, h3⟩ := h.ex
  injection e with e1 e2 e3
  subst e1 e2 e3
  refine (run_convert_bytes_string W 45 9 5 A l.length c Try.underlying45 Try.underlying5 Try.underlying9).trans ?_
  cases A with
  | none =>
    have hl : l = [] := by
      cases l with
      | nil => rfl
      | cons a l =>
        obtain ⟨b, off, e, _⟩ := h3 0 (by simp)
        cases e
    rw [hl]
    rfl
  | some a =>
    unfold strI
    refine run_bytesToString W a l.length c l ?_
    have q := run_loadCells_list (P := Try.prog) (w := W) a (l.map (Value.int .u8)) (fun j v hj => by
      have hjl : j < l.length := by
        have := (List.getElem?_eq_some_iff.1 hj).1
        simpa using this
      obtain ⟨b, off, e, hb, hc⟩ := h3 j hjl
      injection e with e
      subst e
      have c0 := hc 0 (by omega)
      rw [Addr.add_lit]
      rw [show off + j * 1 + 0 = off + j from by omega] at c0
      rw [c0]
      rw [List.getElem?_map, List.getElem?_eq_getElem hjl] at hj
      unfold cU
      rw [List.getD_eq_getElem?_getD, List.getElem?_eq_getElem hjl]
      exact hj)
    rw [List.length_map] at q
    exact q
end Go.Proofs.Ytadhkmplhgcgkaa.World
