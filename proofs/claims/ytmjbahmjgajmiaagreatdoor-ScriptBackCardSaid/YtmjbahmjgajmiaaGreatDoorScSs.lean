/- same, Encode: by hand. -/
import Derived.Test.YtmjbahmjgajmiaaGreatDoorScSq
set_option maxRecDepth 100000
namespace Ey.Sc
open Go (IntKind)
variable {Φ : Nat → Option AFn}

theorem byteOf_byt (x : UInt8) : byteOf (byt x) = some x := by
  have := x.toNat_lt
  unfold byteOf byt
  simp only
  rw [if_pos (by omega)]
  simp
theorem mapM_byt : ∀ l : List UInt8, (l.map byt).mapM byteOf = some l
  | [] => rfl
  | x :: l => by
    rw [List.map_cons, List.mapM_cons, byteOf_byt, mapM_byt l]; rfl
/-- string of a slice that is not written -/
theorem cvb_lv {f : Option Bool} {l : List UInt8} {e : Env} {H : Heap} {x : Opd} (hx : e.av x = some (lv f (l.map byt))) (hf : Fo f (l.map byt)) : opv e H (.cvb x) = some (.v (.str l)) := by
  cases f with
  | none =>
    have : l = [] := by simpa using hf (by simp)
    subst this
    simp only [opv, hx, lv]
  | some n => simp only [opv, hx, lv, mapM_byt, Option.map_some]

theorem bytesEq_ok (h : Φ 194 = some a194) {f g : Option Bool} {l m : List UInt8} {H : Heap} (hf : Fo f (l.map byt)) (hg : Fo g (m.map byt)) :
    evC Φ 194 [lv f (l.map byt), lv g (m.map byt)] H = some (.ret (.bool (l == m)) H) := by
  rw [evC_eq h rfl]
  have c1 : ∀ (e : Env) (H : Heap), e.get 5 = .v (lv f (l.map byt)) → opv e H (.cvb (.t 5)) = some (.v (.str l)) := fun e H he => cvb_lv (by simp [Env.av, Env.sl, he]) hf
  have c2 : ∀ (e : Env) (H : Heap), e.get 7 = .v (lv g (m.map byt)) → opv e H (.cvb (.t 7)) = some (.v (.str m)) := fun e H he => cvb_lv (by simp [Env.av, Env.sl, he]) hg
  have o1 : opS (evC Φ) (some 6) [(5, .v (lv f (l.map byt))), (4, .v (.bool false)), (0, .v (lv f (l.map byt))), (1, .v (lv g (m.map byt)))] (bodyH a194 H) (.cvb (.t 5)) = some (.go .nrm [(6, .v (.str l)), (5, .v (lv f (l.map byt))), (4, .v (.bool false)), (0, .v (lv f (l.map byt))), (1, .v (lv g (m.map byt)))] (bodyH a194 H)) := by
    simp only [opS]; rw [c1 _ _ (by simp [Env.get])]; rfl
  have o2 : opS (evC Φ) (some 8) [(7, .v (lv g (m.map byt))), (6, .v (.str l)), (5, .v (lv f (l.map byt))), (4, .v (.bool false)), (0, .v (lv f (l.map byt))), (1, .v (lv g (m.map byt)))] (bodyH a194 H) (.cvb (.t 7)) = some (.go .nrm [(8, .v (.str m)), (7, .v (lv g (m.map byt))), (6, .v (.str l)), (5, .v (lv f (l.map byt))), (4, .v (.bool false)), (0, .v (lv f (l.map byt))), (1, .v (lv g (m.map byt)))] (bodyH a194 H)) := by
    simp only [opS]; rw [c2 _ _ (by simp [Env.get])]; rfl
  have hb : bodyH a194 H = { H with ro := H.next } := rfl
  have hr : a194.results = [.tmp 4] := rfl
  have hp : a194.pure = true := rfl
  have hc : a194.code = .seq a194.code.L (.seq a194.code.R.L .ret) := rfl
  have key : evX Φ a194.code (initEnv 0 [lv f (l.map byt), lv g (m.map byt)]) (bodyH a194 H) = some (.go .ret [(4, .v (.bool (l == m))), (9, .v (.bool (l == m))), (8, .v (.str m)), (7, .v (lv g (m.map byt))), (6, .v (.str l)), (5, .v (lv f (l.map byt))), (4, .v (.bool false)), (0, .v (lv f (l.map byt))), (1, .v (lv g (m.map byt)))] (bodyH a194 H)) := by
    generalize bodyH a194 H = K at o1 o2 ⊢
    rw [hc, evX_seq]
    have e1 : evX Φ a194.code.L (initEnv 0 [lv f (l.map byt), lv g (m.map byt)]) K = some (.go .nrm [(4, .v (.bool false)), (0, .v (lv f (l.map byt))), (1, .v (lv g (m.map byt)))] K) := by
      simp [a194, ACode.L, evX_ops, opsS, wantedS, opS, opv, Env.sl, initEnv, setDst]
    rw [e1]
    simp only
    rw [evX_seq]
    have e2 : evX Φ a194.code.R.L [(4, .v (.bool false)), (0, .v (lv f (l.map byt))), (1, .v (lv g (m.map byt)))] K = some (.go .nrm [(4, .v (.bool (l == m))), (9, .v (.bool (l == m))), (8, .v (.str m)), (7, .v (lv g (m.map byt))), (6, .v (.str l)), (5, .v (lv f (l.map byt))), (4, .v (.bool false)), (0, .v (lv f (l.map byt))), (1, .v (lv g (m.map byt)))] K) := by
      have m1 : opS (evC Φ) (some 5) [(4, .v (.bool false)), (0, .v (lv f (l.map byt))), (1, .v (lv g (m.map byt)))] K (.mv (.t 0)) = some (.go .nrm [(5, .v (lv f (l.map byt))), (4, .v (.bool false)), (0, .v (lv f (l.map byt))), (1, .v (lv g (m.map byt)))] K) := by simp [opS, opv, Env.sl, Env.get, setDst]
      have m2 : opS (evC Φ) (some 7) [(6, .v (.str l)), (5, .v (lv f (l.map byt))), (4, .v (.bool false)), (0, .v (lv f (l.map byt))), (1, .v (lv g (m.map byt)))] K (.mv (.t 1)) = some (.go .nrm [(7, .v (lv g (m.map byt))), (6, .v (.str l)), (5, .v (lv f (l.map byt))), (4, .v (.bool false)), (0, .v (lv f (l.map byt))), (1, .v (lv g (m.map byt)))] K) := by simp [opS, opv, Env.sl, Env.get, setDst]
      simp only [a194, ACode.R, ACode.L, evX_ops, opsS, wantedS, m1, o1, m2, o2]
      simp [opS, opv, Env.av, Env.sl, Env.get, setDst, binAV]
    rw [e2]
    simp only [evX_ret]
  rw [key]
  simp [finS, hr, resOf, resS, hp, Env.get, AV.under]

def codeE : ACode := a211.code
def cE1 : ACode := codeE.L
def cE2 : ACode := codeE.R.L
def cE3 : ACode := codeE.R.R.L.L
def cE4 : ACode := codeE.R.R.R
def loopE : ACode := codeE.R.R.L.R.K
def roundE : ACode := loopE.P
def cER : ACode := codeE.R.R
theorem eq_code : codeE = .seq cE1 (.seq cE2 cER) := rfl

/-- at a round's head: so far the two are one -/
structure EI (f g : Option Bool) (l m : List Int) (i : Nat) (e : Env) : Prop where
  e0 : e.get 0 = .v (lv f (ints .i64 l))
  e1 : e.get 1 = .v (lv g (ints .i64 m))
  e12 : e.get 12 = .v (.int .i64 l.length)
  e13 : e.get 13 = .v (.int .i64 i)
  le : i ≤ l.length
  eq : l.take i = m.take i

theorem roundE_ok {f g : Option Bool} {l m : List Int} (hf : Fo f (ints .i64 l)) (hg : Fo g (ints .i64 m)) (hlm : l.length = m.length) (hb : l.length ≤ 2 ^ 40) {i : Nat} {e : Env} {H : Heap} (h : EI f g l m i e) :
    Pst (evX Φ roundE e H) (fun x e' _H' => match x with
      | .nrm => i < l.length ∧ EI f g l m (i + 1) (keepS [0, 1, 12, 13] e')
      | .exit j => j = 0 ∧ l = m
      | .ret => e'.get 4 = .v (.bool false) ∧ l ≠ m) fun _ _ _ => False := by
  by_cases hi : i < l.length
  · have hll : ((i : Int) < (l.length : Int)) := by omega
    have hx : (ints .i64 l)[i]? = some (.int .i64 l[i]) := by simp [ints, List.getElem?_eq_getElem hi]
    have hy : (ints .i64 m)[i]? = some (.int .i64 m[i]) := by simp [ints, List.getElem?_eq_getElem (show i < m.length by omega)]
    have e0 := h.e0; have e1 := h.e1
    rw [ix_lv hf hx] at e0
    rw [ix_lv hg hy] at e1
    have w2 : IntKind.wrap .i64 ((i : Int) + 1) = ((i + 1 : Nat) : Int) := by have := wrap_small (n := i + 1) (by omega); push_cast at this ⊢; exact this
    by_cases hq : l[i] = m[i]
    · have hb : (l[i] != m[i]) = false := by simpa using hq
      simp [roundE, loopE, codeE, a211, ACode.R, ACode.L, ACode.K, ACode.P, evX_seq, evX_ops, evX_dops, evX_cond, evX_skip, evX_block, opsS, wantedS, opS, opv, Env.av, Env.sl, Env.get, setDst, h.e13, h.e12, e0, e1, binAV, cmpI, hll, hx, hy, int_cells, ldS, part, hq, arI, w2, Pst]
      refine ⟨hi, by simp [keepS, Env.get, h.e0], by simp [keepS, Env.get, h.e1], by simp [keepS, Env.get, h.e12], by simp [keepS, Env.get], by omega, ?_⟩
      rw [List.take_succ_eq_append_getElem hi, List.take_succ_eq_append_getElem (show i < m.length by omega), h.eq, hq]
    · have hb : (l[i] != m[i]) = true := by simpa using hq
      simp [roundE, loopE, codeE, a211, ACode.R, ACode.L, ACode.K, ACode.P, evX_seq, evX_ops, evX_dops, evX_cond, evX_skip, evX_ret, evX_block, opsS, wantedS, opS, opv, Env.av, Env.sl, Env.get, setDst, h.e13, h.e12, e0, e1, binAV, cmpI, hll, hx, hy, int_cells, ldS, part, hb, Pst]
      intro hlm
      subst hlm
      exact hq rfl
  · have : i = l.length := by have := h.le; omega
    subst this
    have he := h.eq
    rw [List.take_length, hlm, List.take_length] at he
    simp [roundE, loopE, codeE, a211, ACode.R, ACode.L, ACode.K, ACode.P, evX_seq, evX_ops, evX_cond, evX_exit, opsS, wantedS, opS, opv, Env.av, Env.sl, Env.get, setDst, h.e13, h.e12, binAV, cmpI, Pst, he]

theorem intsEq_ok (h : Φ 211 = some a211) {f g : Option Bool} {l m : List Int} {H : Heap} (hf : Fo f (ints .i64 l)) (hg : Fo g (ints .i64 m)) (hb : l.length ≤ 2 ^ 40) :
    evC Φ 211 [lv f (ints .i64 l), lv g (ints .i64 m)] H = some (.ret (.bool (l == m)) H) := by
  have key : Pst (evX Φ codeE (initEnv 0 [lv f (ints .i64 l), lv g (ints .i64 m)]) (bodyH a211 H)) (fun x e' _ => x = .ret ∧ e'.get 4 = .v (.bool (l == m))) fun _ _ _ => False := by
    have h1 := lenAV_lv hf
    have h2 := lenAV_lv hg
    have i1 : (ints .i64 l).length = l.length := by simp [ints]
    have i2 : (ints .i64 m).length = m.length := by simp [ints]
    rw [i1] at h1; rw [i2] at h2
    generalize bodyH a211 H = K
    rw [eq_code]
    apply pst_seq
    simp [cE1, codeE, a211, ACode.L, evX_ops, opsS, wantedS, opS, opv, Env.sl, setDst, initEnv, pst_go, Nx]
    apply pst_seq
    by_cases hl : l.length = m.length
    · simp [cE2, codeE, a211, ACode.L, ACode.R, evX_seq, evX_ops, evX_cond, evX_skip, opsS, wantedS, opS, opv, Env.av, Env.sl, Env.get, setDst, h1, h2, i64, binAV, cmpI, hl, pst_go, Nx]
      show Pst (evX Φ (.seq (.seq cE3 (.block 0 loopE)) cE4) _ _) _ _
      apply pst_seq
      apply pst_seq
      simp [cE3, codeE, a211, ACode.L, ACode.R, evX_ops, opsS, wantedS, opS, opv, Env.av, Env.sl, Env.get, setDst, h1, i64, pst_go, Nx]
      apply pst_block
      refine (pst_loop (k := [0, 1, 12, 13]) (a := roundE) (Q := fun x e' H' => match x with
        | .nrm => False
        | .exit j => j = 0 ∧ l = m
        | .ret => e'.get 4 = .v (.bool false) ∧ l ≠ m) (R := fun _ _ _ => False) (fun n e H => ∃ i, n = l.length - i ∧ EI f g l m i e) (fun n e H hi => ?_) _ _ _ ⟨0, rfl, ?_⟩).mono (fun x e' H' hq => ?_) (fun _ _ _ h => h)
      · obtain ⟨i, rfl, hi⟩ := hi
        refine (roundE_ok hf hg hl hb hi).mono (fun x e' H' hq => ?_) (fun _ _ _ h => h)
        cases x with
        | nrm => exact ⟨_, by have := hq.1; omega, i + 1, rfl, hq.2⟩
        | exit j => exact hq
        | ret => exact hq
      · exact ⟨by simp [keepS, Env.get], by simp [keepS, Env.get], by simp [keepS, Env.get, hl], by simp [keepS, Env.get], by omega, by simp⟩
      · cases x with
        | nrm => exact hq.elim
        | exit j =>
          obtain ⟨rfl, rfl⟩ := hq
          simp [cE4, codeE, a211, ACode.R, evX_seq, evX_ops, evX_ret, opsS, wantedS, opS, opv, Env.sl, Env.get, setDst, Pst, Nx]
        | ret =>
          obtain ⟨h1, h2⟩ := hq
          refine ⟨rfl, ?_⟩
          rw [h1]; simp [h2]
    · have hne : l ≠ m := fun h => hl (by rw [h])
      have hlz : ((l.length : Int) != m.length) = true := by rw [bne_iff_ne]; omega
      have hlm : (l == m) = false := by simpa using hne
      simp [cE2, codeE, a211, ACode.L, ACode.R, evX_seq, evX_ops, evX_cond, evX_ret, opsS, wantedS, opS, opv, Env.av, Env.sl, Env.get, setDst, h1, h2, i64, binAV, cmpI, hlz, hlm, pst_go, Nx]
  rw [evC_eq h rfl]
  unfold codeE at key
  cases ho : evX Φ a211.code (initEnv 0 [lv f (ints .i64 l), lv g (ints .i64 m)]) (bodyH a211 H) with
  | none => rw [ho] at key; exact key.elim
  | some o =>
    rw [ho] at key
    rcases o with ⟨x, e, H'⟩ | ⟨w, e, H'⟩
    · obtain ⟨rfl, g1⟩ := key
      have hr : a211.results = [.tmp 4] := rfl
      have hp : a211.pure = true := rfl
      simp [finS, hr, resOf, resS, g1, hp, AV.under]
    · exact key.elim

theorem mc_eq (c d : Scr.MC) : decide (c = d) = ((c.kind == d.kind) && ((c.a == d.a) && ((c.b == d.b) && ((c.text == d.text) && (c.pages == d.pages))))) := by
  obtain ⟨k, a, b, t, p⟩ := c
  obtain ⟨k', a', b', t', p'⟩ := d
  rw [Bool.eq_iff_iff]
  simp

theorem same_ok (hb : Φ 194 = some a194) (hi : Φ 211 = some a211) (h : Φ 209 = some a209) {v w : AV} {c d : Scr.MC} {H : Heap} (hv : CmdA v c) (hw : CmdA w d) (hp : c.pages.length ≤ 2 ^ 40) :
    evC Φ 209 [v, w] H = some (.ret (.bool (decide (c = d))) H) := by
  obtain ⟨ft, fp, rfl, hft, hfp⟩ := hv
  obtain ⟨gt, gp, rfl, hgt, hgp⟩ := hw
  have e1 := bytesEq_ok hb (H := bodyH a209 H) hft hgt
  have e2 := intsEq_ok hi (H := bodyH a209 H) hfp hgp hp
  have hr : a209.results = [.tmp 4] := rfl
  have hpu : a209.pure = true := rfl
  rw [evC_eq h rfl, mc_eq]
  have key : Pst (evX Φ a209.code (initEnv 0 [.agg [.int .i64 c.kind, .int .i64 c.a, .int .i64 c.b, lv ft (c.text.map byt), lv fp (ints .i64 c.pages)], .agg [.int .i64 d.kind, .int .i64 d.a, .int .i64 d.b, lv gt (d.text.map byt), lv gp (ints .i64 d.pages)]]) (bodyH a209 H))
      (fun x e' _ => x = .ret ∧ e'.get 4 = .v (.bool ((c.kind == d.kind) && ((c.a == d.a) && ((c.b == d.b) && ((c.text == d.text) && (c.pages == d.pages))))))) fun _ _ _ => False := by
    generalize bodyH a209 H = K at e1 e2 ⊢
    simp only [a209, evX_seq, evX_ops, evX_ret]
    cases h1 : (c.kind == d.kind)
    · simp [opsS, wantedS, opS, opv, Env.av, Env.sl, Env.get, setDst, initEnv, agg_cells, addrS, part, int_cells, binAV, cmpI, h1, Pst]
    cases h2 : (c.a == d.a)
    · simp [opsS, wantedS, opS, opv, Env.av, Env.sl, Env.get, setDst, initEnv, agg_cells, addrS, part, int_cells, binAV, cmpI, h1, h2, Pst]
    cases h3 : (c.b == d.b)
    · simp [opsS, wantedS, opS, opv, Env.av, Env.sl, Env.get, setDst, initEnv, agg_cells, addrS, part, int_cells, binAV, cmpI, h1, h2, h3, Pst]
    cases h4 : (c.text == d.text)
    · rw [h4] at e1
      simp [opsS, wantedS, opS, opv, Env.av, Env.sl, Env.get, setDst, initEnv, agg_cells, addrS, part, int_cells, lv_cells, allAV, binAV, cmpI, h1, h2, h3, e1, Pst]
    rw [h4] at e1
    cases h5 : (c.pages == d.pages)
    all_goals
      rw [h5] at e2
      simp [opsS, wantedS, opS, opv, Env.av, Env.sl, Env.get, setDst, initEnv, agg_cells, addrS, part, int_cells, lv_cells, allAV, binAV, cmpI, h1, h2, h3, e1, e2, Pst]
  cases ho : evX Φ a209.code (initEnv 0 [.agg [.int .i64 c.kind, .int .i64 c.a, .int .i64 c.b, lv ft (c.text.map byt), lv fp (ints .i64 c.pages)], .agg [.int .i64 d.kind, .int .i64 d.a, .int .i64 d.b, lv gt (d.text.map byt), lv gp (ints .i64 d.pages)]]) (bodyH a209 H) with
  | none => rw [ho] at key; exact key.elim
  | some o =>
    rw [ho] at key
    rcases o with ⟨x, e, H'⟩ | ⟨w, e, H'⟩
    · obtain ⟨rfl, g1⟩ := key
      simp only [finS, hr, resOf, resS, g1, hpu, AV.under, if_true]
    · exact key.elim
end Ey.Sc
