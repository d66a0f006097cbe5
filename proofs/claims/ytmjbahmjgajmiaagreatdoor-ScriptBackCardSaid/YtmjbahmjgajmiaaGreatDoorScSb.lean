/- ScriptBack: by hand. -/
import Derived.Test.YtmjbahmjgajmiaaGreatDoorScSi
set_option maxRecDepth 100000
namespace Ey.Sc
open Go (IntKind)
variable {Φ : Nat → Option AFn}

/-! ### numbers held against each other -/
def codeJ : ACode := a94.code
def cJ1 : ACode := codeJ.L
def cJ2 : ACode := codeJ.R.L
def cJR : ACode := codeJ.R.R
def cJ3 : ACode := codeJ.R.R.L.L
def loopJ : ACode := codeJ.R.R.L.R.K
def roundJ : ACode := loopJ.P
def cJ4 : ACode := codeJ.R.R.R
theorem j_code : codeJ = .seq cJ1 (.seq cJ2 cJR) := rfl

structure JI (f g : Option Bool) (l m : List Int) (i : Nat) (e : Env) : Prop where
  e0 : e.get 0 = .v (lv f (ints .i64 l))
  e1 : e.get 1 = .v (lv g (ints .i64 m))
  e5 : e.get 5 = .v (.int .i64 i)
  le : i ≤ l.length
  eq : l.take i = m.take i

theorem roundJ_ok {f g : Option Bool} {l m : List Int} (hf : Fo f (ints .i64 l)) (hg : Fo g (ints .i64 m)) (hlm : l.length = m.length) (hb : l.length ≤ 2 ^ 40) {i : Nat} {e : Env} {H : Heap} (h : JI f g l m i e) :
    Pst (evX Φ roundJ e H) (fun x e' _H' => match x with
      | .nrm => i < l.length ∧ JI f g l m (i + 1) (keepS [0, 1, 5] e')
      | .exit j => j = 0 ∧ l = m
      | .ret => e'.get 4 = .v (.bool false) ∧ l ≠ m) fun _ _ _ => False := by
  have l1 := lenAV_lv hf
  have i1 : (ints .i64 l).length = l.length := by simp [ints]
  rw [i1] at l1
  by_cases hi : i < l.length
  · have hll : ((i : Int) < (l.length : Int)) := by omega
    have hx : (ints .i64 l)[i]? = some (.int .i64 l[i]) := by simp [ints, List.getElem?_eq_getElem hi]
    have hy : (ints .i64 m)[i]? = some (.int .i64 m[i]) := by simp [ints, List.getElem?_eq_getElem (show i < m.length by omega)]
    have e0 := h.e0; have e1 := h.e1
    rw [ix_lv hf hx] at e0 l1
    rw [ix_lv hg hy] at e1
    have w2 : IntKind.wrap .i64 ((i : Int) + 1) = ((i + 1 : Nat) : Int) := by have := wrap_small (n := i + 1) (by omega); push_cast at this ⊢; exact this
    by_cases hq : l[i] = m[i]
    · have hb : (l[i] != m[i]) = false := by simpa using hq
      simp [roundJ, loopJ, codeJ, a94, ACode.R, ACode.L, ACode.K, ACode.P, evX_seq, evX_ops, evX_dops, evX_cond, evX_skip, evX_block, opsS, wantedS, opS, opv, Env.av, Env.sl, Env.get, setDst, h.e5, e0, e1, l1, i64, binAV, cmpI, hll, hx, hy, int_cells, ldS, part, hq, arI, w2, Pst]
      refine ⟨hi, by simp [keepS, Env.get, h.e0], by simp [keepS, Env.get, h.e1], by simp [keepS, Env.get], by omega, ?_⟩
      rw [List.take_succ_eq_append_getElem hi, List.take_succ_eq_append_getElem (show i < m.length by omega), h.eq, hq]
    · have hb : (l[i] != m[i]) = true := by simpa using hq
      simp [roundJ, loopJ, codeJ, a94, ACode.R, ACode.L, ACode.K, ACode.P, evX_seq, evX_ops, evX_dops, evX_cond, evX_skip, evX_ret, evX_block, opsS, wantedS, opS, opv, Env.av, Env.sl, Env.get, setDst, h.e5, e0, e1, l1, i64, binAV, cmpI, hll, hx, hy, int_cells, ldS, part, hb, Pst]
      intro hlm
      subst hlm
      exact hq rfl
  · have : i = l.length := by have := h.le; omega
    subst this
    have he := h.eq
    rw [List.take_length, hlm, List.take_length] at he
    subst he
    simp [roundJ, loopJ, codeJ, a94, ACode.R, ACode.L, ACode.K, ACode.P, evX_seq, evX_ops, evX_cond, evX_exit, opsS, wantedS, opS, opv, Env.av, Env.sl, Env.get, setDst, h.e5, h.e0, l1, i64, binAV, cmpI, Pst]

theorem sameInts_ok (h : Φ 94 = some a94) {f g : Option Bool} {l m : List Int} {H : Heap} (hf : Fo f (ints .i64 l)) (hg : Fo g (ints .i64 m)) (hb : l.length ≤ 2 ^ 40) :
    evC Φ 94 [lv f (ints .i64 l), lv g (ints .i64 m)] H = some (.ret (.bool (l == m)) H) := by
  have key : Pst (evX Φ codeJ (initEnv 0 [lv f (ints .i64 l), lv g (ints .i64 m)]) (bodyH a94 H)) (fun x e' _ => x = .ret ∧ e'.get 4 = .v (.bool (l == m))) fun _ _ _ => False := by
    have h1 := lenAV_lv hf
    have h2 := lenAV_lv hg
    have i1 : (ints .i64 l).length = l.length := by simp [ints]
    have i2 : (ints .i64 m).length = m.length := by simp [ints]
    rw [i1] at h1; rw [i2] at h2
    generalize bodyH a94 H = K
    rw [j_code]
    apply pst_seq
    simp [cJ1, codeJ, a94, ACode.L, evX_ops, opsS, wantedS, opS, opv, Env.sl, setDst, initEnv, pst_go, Nx]
    apply pst_seq
    by_cases hl : l.length = m.length
    · simp [cJ2, codeJ, a94, ACode.L, ACode.R, evX_seq, evX_ops, evX_cond, evX_skip, opsS, wantedS, opS, opv, Env.av, Env.sl, Env.get, setDst, h1, h2, i64, binAV, cmpI, hl, pst_go, Nx]
      show Pst (evX Φ (.seq (.seq cJ3 (.block 0 loopJ)) cJ4) _ _) _ _
      apply pst_seq
      apply pst_seq
      simp [cJ3, codeJ, a94, ACode.L, ACode.R, evX_ops, opsS, wantedS, opS, opv, Env.sl, setDst, pst_go, Nx]
      apply pst_block
      refine (pst_loop (k := [0, 1, 5]) (a := roundJ) (Q := fun x e' H' => match x with
        | .nrm => False
        | .exit j => j = 0 ∧ l = m
        | .ret => e'.get 4 = .v (.bool false) ∧ l ≠ m) (R := fun _ _ _ => False) (fun n e H => ∃ i, n = l.length - i ∧ JI f g l m i e) (fun n e H hi => ?_) _ _ _ ⟨0, rfl, ?_⟩).mono (fun x e' H' hq => ?_) (fun _ _ _ h => h)
      · obtain ⟨i, rfl, hi⟩ := hi
        refine (roundJ_ok hf hg hl hb hi).mono (fun x e' H' hq => ?_) (fun _ _ _ h => h)
        cases x with
        | nrm => exact ⟨_, by have := hq.1; omega, i + 1, rfl, hq.2⟩
        | exit j => exact hq
        | ret => exact hq
      · exact ⟨by simp [keepS, Env.get], by simp [keepS, Env.get], by simp [keepS, Env.get], by omega, by simp⟩
      · cases x with
        | nrm => exact hq.elim
        | exit j =>
          obtain ⟨rfl, rfl⟩ := hq
          simp [cJ4, codeJ, a94, ACode.R, evX_seq, evX_ops, evX_ret, opsS, wantedS, opS, opv, Env.sl, Env.get, setDst, Pst, Nx]
        | ret =>
          obtain ⟨h1, h2⟩ := hq
          refine ⟨rfl, ?_⟩
          rw [h1]; simp [h2]
    · have hne : l ≠ m := fun h => hl (by rw [h])
      have hlz : ((l.length : Int) != m.length) = true := by rw [bne_iff_ne]; omega
      have hlm : (l == m) = false := by simpa using hne
      simp [cJ2, codeJ, a94, ACode.L, ACode.R, evX_seq, evX_ops, evX_cond, evX_ret, opsS, wantedS, opS, opv, Env.av, Env.sl, Env.get, setDst, h1, h2, i64, binAV, cmpI, hlz, hlm, pst_go, Nx]
  rw [evC_eq h rfl]
  unfold codeJ at key
  cases ho : evX Φ a94.code (initEnv 0 [lv f (ints .i64 l), lv g (ints .i64 m)]) (bodyH a94 H) with
  | none => rw [ho] at key; exact key.elim
  | some o =>
    rw [ho] at key
    rcases o with ⟨x, e, H'⟩ | ⟨w, e, H'⟩
    · obtain ⟨rfl, g1⟩ := key
      have hr : a94.results = [.tmp 4] := rfl
      have hp : a94.pure = true := rfl
      simp [finS, hr, resOf, resS, g1, hp, AV.under]
    · exact key.elim

/-! ### commands held against each other, as the document has it -/
theorem av_str {f : Option Bool} {t : List UInt8} (hf : Fo f (t.map byt)) : lv f (t.map byt) = .cap0 ∧ t = [] ∨ ∃ n, lv f (t.map byt) = .list n (t.map byt) := by
  cases f with
  | none => exact .inl ⟨rfl, by simpa using hf (by simp)⟩
  | some n => exact .inr ⟨n, rfl⟩

theorem sameCmd_ok (hi : Φ 94 = some a94) (h : Φ 203 = some a203) {v w : AV} {c d : Scr.MC} {H : Heap} (hv : CmdA v c) (hw : CmdA w d) (hp : c.pages.length ≤ 2 ^ 40) :
    evC Φ 203 [v, w] H = some (.ret (.bool (decide (c = d))) H) := by
  obtain ⟨ft, fp, rfl, hft, hfp⟩ := hv
  obtain ⟨gt, gp, rfl, hgt, hgp⟩ := hw
  have e2 := sameInts_ok hi (H := bodyH a203 H) hfp hgp hp
  have hr : a203.results = [.tmp 4] := rfl
  have hpu : a203.pure = true := rfl
  rw [evC_eq h rfl, mc_eq]
  have key : Pst (evX Φ a203.code (initEnv 0 [.agg [.int .i64 c.kind, .int .i64 c.a, .int .i64 c.b, lv ft (c.text.map byt), lv fp (ints .i64 c.pages)], .agg [.int .i64 d.kind, .int .i64 d.a, .int .i64 d.b, lv gt (d.text.map byt), lv gp (ints .i64 d.pages)]]) (bodyH a203 H))
      (fun x e' _ => x = .ret ∧ e'.get 4 = .v (.bool ((c.kind == d.kind) && ((c.a == d.a) && ((c.b == d.b) && ((c.text == d.text) && (c.pages == d.pages))))))) fun _ _ _ => False := by
    generalize bodyH a203 H = K at e2 ⊢
    simp only [a203, evX_seq, evX_ops, evX_ret]
    have c1 := cvb_lv (e := []) (H := K) (x := .k (lv ft (c.text.map byt))) rfl hft
    have c2 := cvb_lv (e := []) (H := K) (x := .k (lv gt (d.text.map byt))) rfl hgt
    simp only [opv, Env.av, Env.sl] at c1 c2
    cases h1 : (c.kind == d.kind)
    · simp [opsS, wantedS, opS, opv, Env.av, Env.sl, Env.get, setDst, initEnv, agg_cells, addrS, part, int_cells, binAV, cmpI, h1, Pst]
    cases h2 : (c.a == d.a)
    · simp [opsS, wantedS, opS, opv, Env.av, Env.sl, Env.get, setDst, initEnv, agg_cells, addrS, part, int_cells, binAV, cmpI, h1, h2, Pst]
    cases h3 : (c.b == d.b)
    · simp [opsS, wantedS, opS, opv, Env.av, Env.sl, Env.get, setDst, initEnv, agg_cells, addrS, part, int_cells, binAV, cmpI, h1, h2, h3, Pst]
    cases h4 : (c.text == d.text)
    · simp [opsS, wantedS, opS, opv, Env.av, Env.sl, Env.get, setDst, initEnv, agg_cells, addrS, part, int_cells, lv_cells, binAV, cmpI, h1, h2, h3, h4, c1, c2, Pst]
    cases h5 : (c.pages == d.pages)
    all_goals
      rw [h5] at e2
      simp [opsS, wantedS, opS, opv, Env.av, Env.sl, Env.get, setDst, initEnv, agg_cells, addrS, part, int_cells, lv_cells, allAV, binAV, cmpI, h1, h2, h3, h4, c1, c2, e2, Pst]
  cases ho : evX Φ a203.code (initEnv 0 [.agg [.int .i64 c.kind, .int .i64 c.a, .int .i64 c.b, lv ft (c.text.map byt), lv fp (ints .i64 c.pages)], .agg [.int .i64 d.kind, .int .i64 d.a, .int .i64 d.b, lv gt (d.text.map byt), lv gp (ints .i64 d.pages)]]) (bodyH a203 H) with
  | none => rw [ho] at key; exact key.elim
  | some o =>
    rw [ho] at key
    rcases o with ⟨x, e, H'⟩ | ⟨w, e, H'⟩
    · obtain ⟨rfl, g1⟩ := key
      simp only [finS, hr, resOf, resS, g1, hpu, AV.under, if_true]
    · exact key.elim
def codeM : ACode := a200.code
def cM1 : ACode := codeM.L
def cM2 : ACode := codeM.R.L
def cMR : ACode := codeM.R.R
def cM3 : ACode := codeM.R.R.L.L
def loopM : ACode := codeM.R.R.L.R.K
def roundM : ACode := loopM.P
def cM4 : ACode := codeM.R.R.R
theorem m_code : codeM = .seq cM1 (.seq cM2 cMR) := rfl

structure MI (f g : Option Bool) (xs ys : List AV) (cs ds : List Scr.MC) (i : Nat) (e : Env) : Prop where
  e0 : e.get 0 = .v (lv f xs)
  e1 : e.get 1 = .v (lv g ys)
  e5 : e.get 5 = .v (.int .i64 i)
  le : i ≤ cs.length
  eq : cs.take i = ds.take i

theorem cmdA_cells {v : AV} {c : Scr.MC} (h : CmdA v c) : v.cells.length = 5 ∧ AV.agg (v.cells.take 5) = v := by
  obtain ⟨ft, fp, rfl, _, _⟩ := h
  exact ⟨rfl, rfl⟩

theorem roundM_ok (hi : Φ 94 = some a94) (hs : Φ 203 = some a203) {f g : Option Bool} {xs ys : List AV} {cs ds : List Scr.MC} (hf : Fo f xs) (hg : Fo g ys) (ha : All2 CmdA xs cs) (hb : All2 CmdA ys ds) (hlm : cs.length = ds.length) (hl : cs.length ≤ 2 ^ 40) (hp : ∀ c ∈ cs, c.pages.length ≤ 2 ^ 40) {i : Nat} {e : Env} {H : Heap} (h : MI f g xs ys cs ds i e) :
    Pst (evX Φ roundM e H) (fun x e' _H' => match x with
      | .nrm => i < cs.length ∧ MI f g xs ys cs ds (i + 1) (keepS [0, 1, 5] e')
      | .exit j => j = 0 ∧ cs = ds
      | .ret => e'.get 4 = .v (.bool false) ∧ cs ≠ ds) fun _ _ _ => False := by
  have l1 := lenAV_lv hf
  have i1 := ha.length
  have i2 := hb.length
  rw [i1] at l1
  by_cases hi2 : i < cs.length
  · have hll : ((i : Int) < (cs.length : Int)) := by omega
    have hx := List.getElem?_eq_getElem (show i < xs.length by omega)
    have hy := List.getElem?_eq_getElem (show i < ys.length by omega)
    have hc := List.getElem?_eq_getElem hi2
    have hd := List.getElem?_eq_getElem (show i < ds.length by omega)
    have hA := ha.get hx hc
    have hB := hb.get hy hd
    have es := sameCmd_ok hi hs (H := H) hA hB (hp _ (List.getElem_mem hi2))
    have hca := cmdA_cells hA
    have hcb := cmdA_cells hB
    have t1 : cs.take (i + 1) = cs.take i ++ [cs[i]] := List.take_succ_eq_append_getElem hi2
    have t2 : ds.take (i + 1) = ds.take i ++ [ds[i]] := List.take_succ_eq_append_getElem (by omega)
    have e0 := h.e0; have e1 := h.e1
    rw [ix_lv hf hx] at e0 l1
    rw [ix_lv hg hy] at e1
    have hne : cs[i] ≠ ds[i] → cs ≠ ds := fun hq hcd => by subst hcd; exact hq rfl
    generalize xs[i] = x at hx hca es
    generalize ys[i] = y at hy hcb es
    generalize cs[i] = c at es t1 hne
    generalize ds[i] = d at es t2 hne
    have w2 : IntKind.wrap .i64 ((i : Int) + 1) = ((i + 1 : Nat) : Int) := by have := wrap_small (n := i + 1) (by omega); push_cast at this ⊢; exact this
    by_cases hq : c = d
    · have hdq : decide (c = d) = true := by simpa using hq
      rw [hdq] at es
      simp [roundM, loopM, codeM, a200, ACode.R, ACode.L, ACode.K, ACode.P, evX_seq, evX_ops, evX_dops, evX_cond, evX_skip, evX_block, opsS, wantedS, opS, opv, Env.av, Env.sl, Env.get, setDst, h.e5, e0, e1, l1, i64, binAV, cmpI, hll, hx, hy, hca.1, hca.2, hcb.1, hcb.2, ldS, part, allAV, es, unAV, arI, w2, Pst]
      refine ⟨hi2, by simp [keepS, Env.get, h.e0], by simp [keepS, Env.get, h.e1], by simp [keepS, Env.get], by omega, ?_⟩
      rw [t1, t2, h.eq, hq]
    · have hdq : decide (c = d) = false := by simpa using hq
      rw [hdq] at es
      simp [roundM, loopM, codeM, a200, ACode.R, ACode.L, ACode.K, ACode.P, evX_seq, evX_ops, evX_dops, evX_cond, evX_skip, evX_ret, evX_block, opsS, wantedS, opS, opv, Env.av, Env.sl, Env.get, setDst, h.e5, e0, e1, l1, i64, binAV, cmpI, hll, hx, hy, hca.1, hca.2, hcb.1, hcb.2, ldS, part, allAV, es, unAV, Pst]
      exact hne hq
  · have : i = cs.length := by have := h.le; omega
    subst this
    have he := h.eq
    rw [List.take_length, hlm, List.take_length] at he
    subst he
    simp [roundM, loopM, codeM, a200, ACode.R, ACode.L, ACode.K, ACode.P, evX_seq, evX_ops, evX_cond, evX_exit, opsS, wantedS, opS, opv, Env.av, Env.sl, Env.get, setDst, h.e5, h.e0, l1, i64, binAV, cmpI, Pst]

theorem sameCmds_ok (hi : Φ 94 = some a94) (hs : Φ 203 = some a203) (h : Φ 200 = some a200) {f g : Option Bool} {xs ys : List AV} {cs ds : List Scr.MC} {H : Heap} (hf : Fo f xs) (hg : Fo g ys) (ha : All2 CmdA xs cs) (hb : All2 CmdA ys ds) (hl : cs.length ≤ 2 ^ 40) (hp : ∀ c ∈ cs, c.pages.length ≤ 2 ^ 40) :
    evC Φ 200 [lv f xs, lv g ys] H = some (.ret (.bool (decide (cs = ds))) H) := by
  have key : Pst (evX Φ codeM (initEnv 0 [lv f xs, lv g ys]) (bodyH a200 H)) (fun x e' _ => x = .ret ∧ e'.get 4 = .v (.bool (decide (cs = ds)))) fun _ _ _ => False := by
    have h1 := lenAV_lv hf
    have h2 := lenAV_lv hg
    rw [ha.length] at h1; rw [hb.length] at h2
    generalize bodyH a200 H = K
    rw [m_code]
    apply pst_seq
    simp [cM1, codeM, a200, ACode.L, evX_ops, opsS, wantedS, opS, opv, Env.sl, setDst, initEnv, pst_go, Nx]
    apply pst_seq
    by_cases hlm : cs.length = ds.length
    · simp [cM2, codeM, a200, ACode.L, ACode.R, evX_seq, evX_ops, evX_cond, evX_skip, opsS, wantedS, opS, opv, Env.av, Env.sl, Env.get, setDst, h1, h2, i64, binAV, cmpI, hlm, pst_go, Nx]
      show Pst (evX Φ (.seq (.seq cM3 (.block 0 loopM)) cM4) _ _) _ _
      apply pst_seq
      apply pst_seq
      simp [cM3, codeM, a200, ACode.L, ACode.R, evX_ops, opsS, wantedS, opS, opv, Env.sl, setDst, pst_go, Nx]
      apply pst_block
      refine (pst_loop (k := [0, 1, 5]) (a := roundM) (Q := fun x e' H' => match x with
        | .nrm => False
        | .exit j => j = 0 ∧ cs = ds
        | .ret => e'.get 4 = .v (.bool false) ∧ cs ≠ ds) (R := fun _ _ _ => False) (fun n e H => ∃ i, n = cs.length - i ∧ MI f g xs ys cs ds i e) (fun n e H hi' => ?_) _ _ _ ⟨0, rfl, ?_⟩).mono (fun x e' H' hq => ?_) (fun _ _ _ h => h)
      · obtain ⟨i, rfl, hi'⟩ := hi'
        refine (roundM_ok hi hs hf hg ha hb hlm hl hp hi').mono (fun x e' H' hq => ?_) (fun _ _ _ h => h)
        cases x with
        | nrm => exact ⟨_, by have := hq.1; omega, i + 1, rfl, hq.2⟩
        | exit j => exact hq
        | ret => exact hq
      · exact ⟨by simp [keepS, Env.get], by simp [keepS, Env.get], by simp [keepS, Env.get], by omega, by simp⟩
      · cases x with
        | nrm => exact hq.elim
        | exit j =>
          obtain ⟨rfl, rfl⟩ := hq
          simp [cM4, codeM, a200, ACode.R, evX_seq, evX_ops, evX_ret, opsS, wantedS, opS, opv, Env.sl, Env.get, setDst, Pst, Nx]
        | ret =>
          obtain ⟨h1, h2⟩ := hq
          refine ⟨rfl, ?_⟩
          rw [h1]; simp [h2]
    · have hne : cs ≠ ds := fun h => hlm (by rw [h])
      have hlz : ((cs.length : Int) != ds.length) = true := by rw [bne_iff_ne]; omega
      simp [cM2, codeM, a200, ACode.L, ACode.R, evX_seq, evX_ops, evX_cond, evX_ret, opsS, wantedS, opS, opv, Env.av, Env.sl, Env.get, setDst, h1, h2, i64, binAV, cmpI, hlz, hne, pst_go, Nx]
  rw [evC_eq h rfl]
  unfold codeM at key
  cases ho : evX Φ a200.code (initEnv 0 [lv f xs, lv g ys]) (bodyH a200 H) with
  | none => rw [ho] at key; exact key.elim
  | some o =>
    rw [ho] at key
    rcases o with ⟨x, e, H'⟩ | ⟨w, e, H'⟩
    · obtain ⟨rfl, g1⟩ := key
      have hr : a200.results = [.tmp 4] := rfl
      have hp : a200.pure = true := rfl
      simp [finS, hr, resOf, resS, g1, hp, AV.under]
    · exact key.elim

/-! ### the law -/
def cB1 : ACode := a201.code.L
def cB2 : ACode := a201.code.R.L
def cB3 : ACode := a201.code.R.R.L
def cBR : ACode := a201.code.R.R.R
def cBT : ACode := .seq cB3 cBR
theorem back_code : a201.code = .seq cB1 (.seq cB2 cBT) := rfl

theorem fo_of {nl : Bool} {xs : List AV} (h : nl = true → xs = []) : Fo (some nl) xs := fun hf => by
  cases nl with
  | false => exact absurd rfl hf
  | true => exact h rfl

theorem back_ok (F : Fns Φ) (h1 : Φ 94 = some a94) (h2 : Φ 203 = some a203) (h3 : Φ 200 = some a200) (hb : evC Φ 197 [] heap0 = some (.ret (.bool true) heap0)) (h : Φ 201 = some a201) {x0 : AV} (i0 : Imp (.sl false [.int .u8]) x0) :
    ∃ H', evC Φ 201 [x0] heap0 = some (.ret (.bool true) H') := by
  obtain ⟨ft, b, rfl, hft⟩ := imp_bytes i0
  have l1 := lenAV_lv hft
  have e1 : (b.map byt).length = b.length := by simp
  rw [e1] at l1
  have hr : a201.results = [.tmp 2] := rfl
  have hp : a201.pure = true := rfl
  have key : Pst (evX Φ a201.code (initEnv 0 [lv ft (b.map byt)]) heap0) (fun x e' _ => x = .ret ∧ e'.get 2 = .v (.bool true)) fun _ _ _ => False := by
    rw [back_code]
    apply pst_seq
    simp [cB1, a201, ACode.L, evX_ops, opsS, wantedS, opS, opv, Env.sl, setDst, initEnv, pst_go, Nx]
    apply pst_seq
    simp [cB2, a201, ACode.L, ACode.R, evX_seq, evX_ops, evX_cond, evX_skip, opsS, wantedS, opS, opv, Env.av, Env.sl, Env.get, setDst, allAV, hb, unAV, pst_go, Nx]
    show Pst (evX Φ (.seq cB3 cBR) _ _) _ _
    apply pst_seq
    by_cases hbig : (1000 : Int) < b.length
    · simp [cB3, a201, ACode.L, ACode.R, evX_seq, evX_ops, evX_cond, evX_ret, opsS, wantedS, opS, opv, Env.av, Env.sl, Env.get, setDst, l1, i64, binAV, cmpI, hbig, pst_go, Nx]
    simp [cB3, a201, ACode.L, ACode.R, evX_seq, evX_ops, evX_cond, evX_skip, opsS, wantedS, opS, opv, Env.av, Env.sl, Env.get, setDst, l1, i64, binAV, cmpI, hbig, pst_go, Nx]
    show Pst (evX Φ cBR _ _) _ _
    have hbl : b.length ≤ 1000 := by omega
    obtain ⟨r1, d1, nl1, zs1, rfl, hn1, hz1⟩ := decode_ok F.clone F.take F.one F.place F.two F.list F.cmd F.decode (b := b) (H := heap0) (by omega) hft fresh0
    have hA1 : All2 CmdA zs1 (Scr.dec b) := hz1.mono fun _ _ h => cmdA_of h
    have hdl : (Scr.dec b).length ≤ b.length := by
      have : ∀ n (b : List UInt8), b.length ≤ n → (Scr.dec b).length ≤ b.length := by
        intro n
        induction n with
        | zero =>
          intro b hb
          have : b = [] := List.length_eq_zero_iff.1 (by omega)
          subst this
          rw [Scr.dec_nil]; simp
        | succ n ih =>
          intro b hb
          cases hd : Scr.dec1 b with
          | none => rw [Scr.dec_none hd]; simp
          | some x =>
            obtain ⟨c, r⟩ := x
            have := Scr.dec1_len hd
            have := ih r (by omega)
            rw [Scr.dec_some hd]; simp; omega
      exact this _ b (Nat.le_refl _)
    have hsm : ∀ c ∈ Scr.dec b, small c := fun c hc => by
      have hok := Scr.dec_all hc
      have ht := hok.text
      have hpg := hok.pages
      constructor
      · split at ht
        · omega
        · rw [ht]; simp
      · split at hpg
        · omega
        · rw [hpg]; simp
    obtain ⟨r2, d2, nl2, rfl, hn2⟩ := encode_ok F (f := some nl1) (H := heap0) (fo_of hn1) hA1 hsm (by rw [hz1.length]; omega) fresh0
    have hbk := Scr.back b
    obtain ⟨r3, d3, nl3, zs3, rfl, hn3, hz3⟩ := decode_ok F.clone F.take F.one F.place F.two F.list F.cmd F.decode (f := some nl2) (b := Scr.enc (Scr.dec b)) (H := heap0) (by omega) (fo_of fun h => by rw [hn2 h]; rfl) fresh0
    have hA3 : All2 CmdA zs3 (Scr.dec (Scr.enc (Scr.dec b))) := hz3.mono fun _ _ h => cmdA_of h
    have d4 := sameCmds_ok h1 h2 h3 (f := some nl3) (g := some nl1) (H := heap0) (fo_of hn3) (fo_of hn1) hA3 hA1 (by rw [hbk.1]; omega) (fun c hc => by rw [hbk.1] at hc; have := (hsm c hc).2; omega)
    rw [hbk.1] at d4
    simp only [decide_true] at d4
    have d2' : evC Φ 199 [.list nl1 zs1] heap0 = _ := d2
    have d3' : evC Φ 198 [.list nl2 ((Scr.enc (Scr.dec b)).map byt)] heap0 = _ := d3
    have d4' : evC Φ 200 [.list nl3 zs3, .list nl1 zs1] heap0 = _ := d4
    have l2 : lenAV (.list nl2 ((Scr.enc (Scr.dec b)).map byt)) = some (Scr.enc (Scr.dec b)).length := by simp [lenAV]
    have hle : ((Scr.enc (Scr.dec b)).length : Int) ≤ b.length := by have := hbk.2; omega
    generalize (Scr.enc (Scr.dec b)) = E at d2' d3' d4' l2 hle
    simp [cBR, a201, ACode.R, evX_seq, evX_ops, evX_ret, opsS, wantedS, opS, opv, Env.av, Env.sl, Env.get, setDst, allAV, d1, d2', d3', d4', l1, l2, i64, binAV, cmpI, Pst, hle]
  rw [evC_eq h rfl, bodyH0]
  cases ho : evX Φ a201.code (initEnv 0 [lv ft (b.map byt)]) heap0 with
  | none => rw [ho] at key; exact key.elim
  | some o =>
    rw [ho] at key
    rcases o with ⟨x, e, H'⟩ | ⟨w, e, H'⟩
    · obtain ⟨rfl, g1⟩ := key
      exact ⟨heap0, by simp [finS, hr, resOf, resS, g1, hp, AV.under]⟩
    · exact key.elim
end Ey.Sc
