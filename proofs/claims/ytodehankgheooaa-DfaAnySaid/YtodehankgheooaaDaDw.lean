/- Walk, Longest: by hand. -/
import Derived.Test.YtodehankgheooaaDaDu
set_option maxRecDepth 100000
namespace Ey.Da
open Go (IntKind)
variable {Φ : Nat → Option AFn}

def codeW : ACode := a22.code
def cW1 : ACode := codeW.L
def cW2 : ACode := codeW.R.L
def cW3 : ACode := codeW.R.R.L
def cW4 : ACode := codeW.R.R.R.L.L
def loopW : ACode := codeW.R.R.R.L.R.K
def roundW : ACode := loopW.P
def cW5 : ACode := codeW.R.R.R.R
def cWQ : ACode := codeW.R.R.R
theorem w_code : codeW = .seq cW1 (.seq cW2 (.seq cW3 cWQ)) := rfl
theorem wq_code : cWQ = .seq (.seq cW4 (.block 0 loopW)) cW5 := rfl

structure WI (D : List AV) (cls : List Int) (rows : List (List Int)) (ends : List Int) (fw : Option Bool) (w : List UInt8) (i : Nat) (e : Env) : Prop where
  e2 : e.get 2 = .v (.imm (.agg D))
  e9 : e.get 9 = .v (lv fw (w.map byt))
  e10 : e.get 10 = .v (.int .i64 w.length)
  e11 : e.get 11 = .v (.int .i64 i)
  le : i ≤ w.length
  st : ∃ s : Nat, ∃ b : Int × Int, e.get 6 = .v (.int .i64 (s : Int)) ∧ s < rows.length ∧ e.get 4 = .v (.int .i64 b.1) ∧ e.get 5 = .v (.int .i64 b.2) ∧ wk cls rows ends s i b (w.drop i) = wk cls rows ends 0 0 (-1, 0) w

theorem roundW_ok {D : List AV} {cls : List Int} {rs : List AV} {rows : List (List Int)} {ends : List Int} {fn fe fw : Option Bool} (hD : DV D cls rs rows ends fn fe) (hm : May cls rows ends) {w : List UInt8} (hfw : Fo fw (w.map byt)) (hw : w.length ≤ 2 ^ 40) {i : Nat} {e : Env} {H : Heap} (h : WI D cls rows ends fw w i e) :
    Pst (evX Φ roundW e H) (fun q e' _ => match q with
      | .nrm => i < w.length ∧ WI D cls rows ends fw w (i + 1) (keepS [2, 4, 5, 6, 9, 10, 11] e')
      | .exit j => j = 0 ∧ e'.get 4 = .v (.int .i64 (wk cls rows ends 0 0 (-1, 0) w).1) ∧ e'.get 5 = .v (.int .i64 (wk cls rows ends 0 0 (-1, 0) w).2)
      | .ret => False) fun _ _ _ => False := by
  obtain ⟨s, b, e6, hs, e4, e5, hg⟩ := h.st
  have e2 := h.e2; have e9 := h.e9; have e10 := h.e10; have e11 := h.e11
  have g256 := hD.g256; have g257 := hD.g257; have hA := ptab hD
  by_cases hi : i < w.length
  · have hll : (i : Int) < (w.length : Int) := by omega
    have w2 : IntKind.wrap .i64 ((i : Int) + 1) = ((i + 1 : Nat) : Int) := by have := wrap_small (n := i + 1) (by omega); push_cast at this ⊢; exact this
    have hb := bget hi
    have hdr : w.drop i = w[i] :: w.drop (i + 1) := List.drop_eq_getElem_cons hi
    rw [ixf hfw hb] at e9
    obtain ⟨r, k, hx, hk, hk0, he, hlo, hhi⟩ := acc hD hm hs w[i]
    rw [ixf hD.hfn hx] at g256
    have hc := w[i].toNat_lt
    have hcz : ((w[i].toNat : Int) < 256) := by omega
    rw [hdr] at hg
    simp only [wk] at hg
    generalize w[i] = c at hb hk he hlo hhi hc hcz hg
    generalize nx cls rows s c = t at he hlo hhi hg
    by_cases ht : t < 0
    · rw [if_pos ht] at hg
      simp [roundW, loopW, codeW, a22, ACode.R, ACode.L, ACode.K, ACode.P, evX_seq, evX_ops, evX_dops, evX_cond, evX_skip, evX_exit, evX_block, opsS, wantedS, opS, opv, Env.av, Env.sl, Env.get, setDst, e2, e4, e5, e6, e9, e10, e11, binAV, cmpI, hll, hb, icells, ldS, pcell, addrS, agc, lsc, g256, hx, hA, hcz, hk, hk0, he, ht, Pst]
      rw [← hg]
      exact ⟨rfl, rfl⟩
    · rw [if_neg ht] at hg
      have htn : ((t.toNat : Nat) : Int) = t := by omega
      obtain ⟨f1, f2⟩ := endsat hD hm (show t.toNat < rows.length by omega)
      rw [f1] at g257
      have ht0 : 0 ≤ t := by omega
      generalize ends.getD t.toNat 0 = y at f2 hg
      by_cases hy : 0 ≤ y
      · rw [if_pos hy] at hg
        simp [roundW, loopW, codeW, a22, ACode.R, ACode.L, ACode.K, ACode.P, evX_seq, evX_ops, evX_dops, evX_cond, evX_skip, evX_block, opsS, wantedS, opS, opv, Env.av, Env.sl, Env.get, setDst, e2, e6, e9, e10, e11, binAV, cmpI, hll, hb, icells, ldS, pcell, addrS, agc, lsc, g256, g257, hx, hA, hcz, hk, hk0, he, ht, ht0, f2, hy, arI, w2, Pst]
        exact ⟨hi, by simp [keepS, Env.get, e2], by simp [keepS, Env.get, h.e9], by simp [keepS, Env.get, e10], by simp [keepS, Env.get], by omega, t.toNat, (y, ((i + 1 : Nat) : Int)), by simp [keepS, Env.get, htn], by omega, by simp [keepS, Env.get], by simp [keepS, Env.get], hg⟩
      · rw [if_neg hy] at hg
        simp [roundW, loopW, codeW, a22, ACode.R, ACode.L, ACode.K, ACode.P, evX_seq, evX_ops, evX_dops, evX_cond, evX_skip, evX_block, opsS, wantedS, opS, opv, Env.av, Env.sl, Env.get, setDst, e2, e6, e9, e10, e11, binAV, cmpI, hll, hb, icells, ldS, pcell, addrS, agc, lsc, g256, g257, hx, hA, hcz, hk, hk0, he, ht, ht0, f2, hy, arI, w2, Pst]
        exact ⟨hi, by simp [keepS, Env.get, e2], by simp [keepS, Env.get, h.e9], by simp [keepS, Env.get, e10], by simp [keepS, Env.get], by omega, t.toNat, b, by simp [keepS, Env.get, htn], by omega, by simp [keepS, Env.get, e4], by simp [keepS, Env.get, e5], hg⟩
  · have hil : i = w.length := by have := h.le; omega
    subst hil
    rw [List.drop_length] at hg
    simp only [wk] at hg
    simp [roundW, loopW, codeW, a22, ACode.R, ACode.L, ACode.K, ACode.P, evX_seq, evX_ops, evX_cond, evX_exit, opsS, wantedS, opS, opv, Env.av, Env.sl, Env.get, setDst, e4, e5, e10, e11, binAV, cmpI, Pst]
    rw [← hg]
    exact ⟨rfl, rfl⟩

theorem walk_ok (h : Φ 22 = some a22) {D : List AV} {cls : List Int} {rs : List AV} {rows : List (List Int)} {ends : List Int} {fn fe fw : Option Bool} (hD : DV D cls rs rows ends fn fe) (hm : May cls rows ends) {w : List UInt8} (hfw : Fo fw (w.map byt)) (hw : w.length ≤ 2 ^ 40) {H : Heap} :
    evC Φ 22 [.agg D, lv fw (w.map byt)] H = some (.ret (.tup [.int .i64 (wk cls rows ends 0 0 (-1, 0) w).1, .int .i64 (wk cls rows ends 0 0 (-1, 0) w).2]) H) := by
  have lw := lenAV_lv hfw
  rw [show (w.map byt).length = w.length by simp] at lw
  have dl := hD.len
  have key : Pst (evX Φ codeW (initEnv 0 [.agg D, lv fw (w.map byt)]) (bodyH a22 H)) (fun x e' _ => x = .ret ∧ e'.get 4 = .v (.int .i64 (wk cls rows ends 0 0 (-1, 0) w).1) ∧ e'.get 5 = .v (.int .i64 (wk cls rows ends 0 0 (-1, 0) w).2)) fun _ _ _ => False := by
    generalize bodyH a22 H = K
    rw [w_code]
    apply pst_seq
    simp [cW1, codeW, a22, ACode.L, evX_ops, opsS, wantedS, opS, opv, Env.av, Env.sl, Env.get, setDst, initEnv, agc, dl, pst_go, Nx]
    apply pst_seq
    simp [cW2, codeW, a22, ACode.L, ACode.R, evX_ops, opsS, wantedS, opS, opv, Env.sl, setDst, pst_go, Nx]
    apply pst_seq
    simp [cW3, codeW, a22, ACode.L, ACode.R, evX_ops, opsS, wantedS, opS, opv, Env.sl, setDst, pst_go, Nx]
    rw [wq_code]
    apply pst_seq
    apply pst_seq
    simp [cW4, codeW, a22, ACode.L, ACode.R, evX_ops, opsS, wantedS, opS, opv, Env.av, Env.sl, Env.get, setDst, lw, i64, pst_go, Nx]
    apply pst_block
    have h0 : 0 < rows.length := List.length_pos_iff.2 hm.ne
    refine (pst_loop (k := [2, 4, 5, 6, 9, 10, 11]) (a := roundW) (Q := fun q e' _ => match q with
      | .nrm => False
      | .exit j => j = 0 ∧ e'.get 4 = .v (.int .i64 (wk cls rows ends 0 0 (-1, 0) w).1) ∧ e'.get 5 = .v (.int .i64 (wk cls rows ends 0 0 (-1, 0) w).2)
      | .ret => False) (R := fun _ _ _ => False) (fun n e H => ∃ i, n = w.length - i ∧ WI D cls rows ends fw w i e) (fun n e H hi' => ?_) _ _ _ ⟨0, rfl, ?_⟩).mono (fun q e' H' hq => ?_) (fun _ _ _ h => h)
    · obtain ⟨i, rfl, hi'⟩ := hi'
      refine (roundW_ok hD hm hfw hw hi').mono (fun q e' H' hq => ?_) (fun _ _ _ h => h)
      cases q with
      | nrm => exact ⟨_, by have := hq.1; omega, i + 1, rfl, hq.2⟩
      | exit j => exact hq
      | ret => exact hq
    · exact ⟨by simp [keepS, Env.get], by simp [keepS, Env.get], by simp [keepS, Env.get], by simp [keepS, Env.get], by omega, 0, (-1, 0), by simp [keepS, Env.get], h0, by simp [keepS, Env.get], by simp [keepS, Env.get], rfl⟩
    · cases q with
      | nrm => exact hq.elim
      | ret => exact hq.elim
      | exit j =>
        obtain ⟨rfl, q4, q5⟩ := hq
        simp only [if_true, Nx]
        simp [cW5, codeW, a22, ACode.R, evX_seq, evX_ops, evX_ret, opsS, wantedS, opS, opv, Env.sl, Env.get, setDst, q4, q5, Pst]
  rw [evC_eq h rfl]
  unfold codeW at key
  cases ho : evX Φ a22.code (initEnv 0 [.agg D, lv fw (w.map byt)]) (bodyH a22 H) with
  | none => rw [ho] at key; exact key.elim
  | some o =>
    rw [ho] at key
    rcases o with ⟨q, e, H'⟩ | ⟨w, e, H'⟩
    · obtain ⟨rfl, g1, g2⟩ := key
      have hr : a22.results = [.tmp 4, .tmp 5] := rfl
      have hp : a22.pure = true := rfl
      simp [finS, hr, resOf, resAll, resS, g1, g2, hp, AV.under, AV.underAll]
    · exact key.elim
end Ey.Da
namespace Ey.Da
open Go (IntKind)
variable {Φ : Nat → Option AFn}
open Classical in
/-- what Longest tells -/
noncomputable def longV (cls : List Int) (rows : List (List Int)) (ends : List Int) (w : List UInt8) : Int × Int := if May cls rows ends then lg cls rows ends w w.length else (-1, 0)

def cV1 : ACode := a23.code.L
def cV2 : ACode := a23.code.R.L
def cV3 : ACode := a23.code.R.R
theorem v_code : a23.code = .seq cV1 (.seq cV2 cV3) := rfl

open Classical in
theorem longest_ok (hmn : Φ 44 = some a44) (hmx : Φ 42 = some a42) (hm8 : Φ 43 = some a43) (hmy : Φ 21 = some a21) (hwk : Φ 22 = some a22) (h : Φ 23 = some a23) {D : List AV} {cls : List Int} {rs : List AV} {rows : List (List Int)} {ends : List Int} {fn fe fw : Option Bool} (hD : DV D cls rs rows ends fn fe) {w : List UInt8} (hfw : Fo fw (w.map byt)) (hw : w.length ≤ 2 ^ 40) {H : Heap} :
    evC Φ 23 [.agg D, lv fw (w.map byt)] H = some (.ret (.tup [.int .i64 (longV cls rows ends w).1, .int .i64 (longV cls rows ends w).2]) H) := by
  have em := fun K => dmay_ok hmn hmx hm8 hmy hD (H := K)
  have dl := hD.len; have dA := hD.all
  have hdp : part 258 true D 0 = some (.agg D) := by simp [part, dl, dA]
  have key : Pst (evX Φ a23.code (initEnv 0 [.agg D, lv fw (w.map byt)]) (bodyH a23 H)) (fun x e' _ => x = .ret ∧ e'.get 4 = .v (.int .i64 (longV cls rows ends w).1) ∧ e'.get 5 = .v (.int .i64 (longV cls rows ends w).2)) fun _ _ _ => False := by
    generalize bodyH a23 H = K
    rw [v_code]
    apply pst_seq
    simp [cV1, a23, ACode.L, evX_ops, opsS, wantedS, opS, opv, Env.av, Env.sl, Env.get, setDst, initEnv, agc, dl, pst_go, Nx]
    apply pst_seq
    by_cases hm : May cls rows ends
    · have em1 := em K
      rw [show decide (May cls rows ends) = true from decide_eq_true hm] at em1
      have hv : longV cls rows ends w = lg cls rows ends w w.length := by unfold longV; rw [if_pos hm]
      have ew := walk_ok hwk hD hm hfw hw (H := K)
      rw [walk_longest, ← hv] at ew
      simp [cV2, a23, ACode.L, ACode.R, evX_seq, evX_ops, evX_cond, evX_skip, opsS, wantedS, opS, opv, Env.av, Env.sl, Env.get, setDst, agc, dl, hdp, allAV, em1, unAV, pst_go, Nx]
      simp [cV3, a23, ACode.R, evX_seq, evX_ops, evX_ret, opsS, wantedS, opS, opv, Env.av, Env.sl, Env.get, setDst, agc, dl, hdp, allAV, ew, Pst]
    · have em1 := em K
      rw [show decide (May cls rows ends) = false from decide_eq_false hm] at em1
      have hv : longV cls rows ends w = (-1, 0) := by unfold longV; rw [if_neg hm]
      simp [cV2, a23, ACode.L, ACode.R, evX_seq, evX_ops, evX_cond, evX_ret, opsS, wantedS, opS, opv, Env.av, Env.sl, Env.get, setDst, agc, dl, hdp, allAV, em1, unAV, hv, pst_go, Nx]
  rw [evC_eq h rfl]
  cases ho : evX Φ a23.code (initEnv 0 [.agg D, lv fw (w.map byt)]) (bodyH a23 H) with
  | none => rw [ho] at key; exact key.elim
  | some o =>
    rw [ho] at key
    rcases o with ⟨q, e, H'⟩ | ⟨w, e, H'⟩
    · obtain ⟨rfl, g1, g2⟩ := key
      have hr : a23.results = [.tmp 4, .tmp 5] := rfl
      have hp : a23.pure = true := rfl
      simp [finS, hr, resOf, resAll, resS, g1, g2, hp, AV.under, AV.underAll]
    · exact key.elim

/-! ### the document's Run -/
def codeR : ACode := a30.code
def cR1 : ACode := codeR.L
def cR2 : ACode := codeR.R.L
def cR3 : ACode := codeR.R.R.L
def cR4 : ACode := codeR.R.R.R.L.L
def loopR : ACode := codeR.R.R.R.L.R.K
def roundR : ACode := loopR.P
def cR5 : ACode := codeR.R.R.R.R
def cRQ : ACode := codeR.R.R
theorem r_code : codeR = .seq cR1 (.seq cR2 cRQ) := rfl
theorem rq_code : cRQ = .seq cR3 (.seq (.seq cR4 (.block 0 loopR)) cR5) := rfl

structure RI (D : List AV) (cls : List Int) (rows : List (List Int)) (fw : Option Bool) (w : List UInt8) (i : Nat) (e : Env) : Prop where
  e1 : e.get 1 = .v (lv fw (w.map byt))
  e2 : e.get 2 = .v (.imm (.agg D))
  e6 : e.get 6 = .v (.int .i64 i)
  le : i ≤ w.length
  st : ∃ t : Int, e.get 5 = .v (.int .i64 t) ∧ t < rows.length ∧ go cls rows 0 (w.take i) = if t < 0 then none else some t.toNat

theorem roundR_ok {D : List AV} {cls : List Int} {rs : List AV} {rows : List (List Int)} {ends : List Int} {fn fe fw : Option Bool} (hD : DV D cls rs rows ends fn fe) (hm : May cls rows ends) {w : List UInt8} (hfw : Fo fw (w.map byt)) (hw : w.length ≤ 2 ^ 40) {i : Nat} {e : Env} {H : Heap} (h : RI D cls rows fw w i e) :
    Pst (evX Φ roundR e H) (fun q e' _ => match q with
      | .nrm => i < w.length ∧ RI D cls rows fw w (i + 1) (keepS [1, 2, 5, 6, 15, 16] e')
      | .exit j => j = 0 ∧ e'.get 2 = .v (.imm (.agg D)) ∧ ∃ t : Int, e'.get 5 = .v (.int .i64 t) ∧ t < rows.length ∧ go cls rows 0 w = if t < 0 then none else some t.toNat
      | .ret => False) fun _ _ _ => False := by
  obtain ⟨t0, e5, hs, hg⟩ := h.st
  have e1 := h.e1; have e2 := h.e2; have e6 := h.e6
  have g256 := hD.g256; have hA := ptab hD
  have lw := lenAV_lv hfw
  rw [show (w.map byt).length = w.length by simp] at lw
  by_cases hi : i < w.length
  · have hll : (i : Int) < (w.length : Int) := by omega
    have hb := bget hi
    rw [ixf hfw hb] at e1 lw
    by_cases h0 : t0 < 0
    · rw [if_pos h0] at hg
      have h00 : ¬ 0 ≤ t0 := by omega
      have hgw := go_none cls rows hg
      simp [roundR, loopR, codeR, a30, ACode.R, ACode.L, ACode.K, ACode.P, evX_seq, evX_ops, evX_cond, evX_exit, opsS, wantedS, opS, opv, Env.av, Env.sl, Env.get, setDst, e1, e2, e5, e6, lw, i64, binAV, cmpI, hll, h00, Pst]
      exact ⟨hs, by rw [if_pos h0]; exact hgw⟩
    · rw [if_neg h0] at hg
      have h00 : 0 ≤ t0 := by omega
      have w2 : IntKind.wrap .i64 ((i : Int) + 1) = ((i + 1 : Nat) : Int) := by have := wrap_small (n := i + 1) (by omega); push_cast at this ⊢; exact this
      have stp := go_step cls rows hi hg
      have hsn : t0.toNat < rows.length := by omega
      obtain ⟨r, k, hx, hk, hk0, he, hlo, hhi⟩ := acc hD hm hsn w[i]
      rw [ixf hD.hfn hx] at g256
      have hc := w[i].toNat_lt
      have hcz : ((w[i].toNat : Int) < 256) := by omega
      generalize w[i] = c at hb stp hk he hlo hhi hc hcz
      generalize nx cls rows t0.toNat c = t at stp he hlo hhi
      simp [roundR, loopR, codeR, a30, ACode.R, ACode.L, ACode.K, ACode.P, evX_seq, evX_ops, evX_dops, evX_cond, evX_skip, evX_block, opsS, wantedS, opS, opv, Env.av, Env.sl, Env.get, setDst, e1, e2, e5, e6, lw, i64, binAV, cmpI, hll, h00, hb, icells, ldS, pcell, addrS, agc, lsc, g256, hx, hA, hcz, hk, hk0, he, arI, w2, Pst]
      exact ⟨hi, by simp [keepS, Env.get, h.e1], by simp [keepS, Env.get, e2], by simp [keepS, Env.get], by omega, t, by simp [keepS, Env.get], hhi, stp⟩
  · have hil : i = w.length := by have := h.le; omega
    subst hil
    rw [List.take_length] at hg
    simp [roundR, loopR, codeR, a30, ACode.R, ACode.L, ACode.K, ACode.P, evX_seq, evX_ops, evX_cond, evX_exit, opsS, wantedS, opS, opv, Env.av, Env.sl, Env.get, setDst, e1, e2, e5, e6, lw, i64, binAV, cmpI, Pst]
    exact ⟨hs, hg⟩

open Classical in
theorem rrun_ok (hmy : Φ 29 = some a29) (h : Φ 30 = some a30) {D : List AV} {cls : List Int} {rs : List AV} {rows : List (List Int)} {ends : List Int} {fn fe fw : Option Bool} (hD : DV D cls rs rows ends fn fe) {w : List UInt8} (hfw : Fo fw (w.map byt)) (hw : w.length ≤ 2 ^ 40) {H : Heap} :
    evC Φ 30 [.agg D, lv fw (w.map byt)] H = some (.ret (.int .i64 (runV cls rows ends w)) H) := by
  have em := fun K => rmay_ok hmy hD (H := K)
  have dl := hD.len; have dA := hD.all; have g257 := hD.g257
  have hdp : part 258 true D 0 = some (.agg D) := by simp [part, dl, dA]
  have key : Pst (evX Φ codeR (initEnv 0 [.agg D, lv fw (w.map byt)]) (bodyH a30 H)) (fun x e' _ => x = .ret ∧ e'.get 4 = .v (.int .i64 (runV cls rows ends w))) fun _ _ _ => False := by
    generalize bodyH a30 H = K
    rw [r_code]
    apply pst_seq
    simp [cR1, codeR, a30, ACode.L, evX_ops, opsS, wantedS, opS, opv, Env.av, Env.sl, Env.get, setDst, initEnv, agc, dl, pst_go, Nx]
    apply pst_seq
    by_cases hm : May cls rows ends
    · have em1 := em K
      rw [show decide (May cls rows ends) = true from decide_eq_true hm] at em1
      simp [cR2, codeR, a30, ACode.L, ACode.R, evX_seq, evX_ops, evX_cond, evX_skip, opsS, wantedS, opS, opv, Env.av, Env.sl, Env.get, setDst, agc, dl, hdp, allAV, em1, unAV, pst_go, Nx]
      rw [rq_code]
      apply pst_seq
      simp [cR3, codeR, a30, ACode.L, ACode.R, evX_ops, opsS, wantedS, opS, opv, Env.sl, setDst, pst_go, Nx]
      apply pst_seq
      apply pst_seq
      simp [cR4, codeR, a30, ACode.L, ACode.R, evX_ops, opsS, wantedS, opS, opv, Env.sl, setDst, pst_go, Nx]
      apply pst_block
      have h0 : 0 < rows.length := List.length_pos_iff.2 hm.ne
      refine (pst_loop (k := [1, 2, 5, 6, 15, 16]) (a := roundR) (Q := fun q e' _ => match q with
        | .nrm => False
        | .exit j => j = 0 ∧ e'.get 2 = .v (.imm (.agg D)) ∧ ∃ t : Int, e'.get 5 = .v (.int .i64 t) ∧ t < rows.length ∧ go cls rows 0 w = if t < 0 then none else some t.toNat
        | .ret => False) (R := fun _ _ _ => False) (fun n e H => ∃ i, n = w.length - i ∧ RI D cls rows fw w i e) (fun n e H hi' => ?_) _ _ _ ⟨0, rfl, ?_⟩).mono (fun q e' H' hq => ?_) (fun _ _ _ h => h)
      · obtain ⟨i, rfl, hi'⟩ := hi'
        refine (roundR_ok hD hm hfw hw hi').mono (fun q e' H' hq => ?_) (fun _ _ _ h => h)
        cases q with
        | nrm => exact ⟨_, by have := hq.1; omega, i + 1, rfl, hq.2⟩
        | exit j => exact hq
        | ret => exact hq
      · exact ⟨by simp [keepS, Env.get], by simp [keepS, Env.get], by simp [keepS, Env.get], by omega, 0, by simp [keepS, Env.get], by omega, rfl⟩
      · cases q with
        | nrm => exact hq.elim
        | ret => exact hq.elim
        | exit j =>
          obtain ⟨rfl, q2, t, q5, hs, hg⟩ := hq
          simp only [if_true, Nx]
          by_cases ht : t < 0
          · rw [if_pos ht] at hg
            have hv : runV cls rows ends w = -1 := by unfold runV runL; rw [if_pos hm, hg]
            rw [hv]
            simp [cR5, codeR, a30, ACode.R, evX_seq, evX_ops, evX_cond, evX_ret, opsS, wantedS, opS, opv, Env.av, Env.sl, Env.get, setDst, q5, binAV, cmpI, ht, Pst]
          · rw [if_neg ht] at hg
            have ht0 : 0 ≤ t := by omega
            obtain ⟨f1, f2⟩ := endsat hD hm (show t.toNat < rows.length by omega)
            rw [f1] at g257
            have hv : runV cls rows ends w = ends.getD t.toNat 0 := by unfold runV runL; rw [if_pos hm, hg]
            rw [hv]
            generalize ends.getD t.toNat 0 = y at f2
            simp [cR5, codeR, a30, ACode.R, evX_seq, evX_ops, evX_cond, evX_skip, evX_ret, opsS, wantedS, opS, opv, Env.av, Env.sl, Env.get, setDst, q2, q5, binAV, cmpI, ht, ht0, addrS, pcell, agc, lsc, icells, g257, ldS, f2, Pst]
    · have em1 := em K
      rw [show decide (May cls rows ends) = false from decide_eq_false hm] at em1
      have hv : runV cls rows ends w = -1 := by unfold runV; rw [if_neg hm]
      simp [cR2, codeR, a30, ACode.L, ACode.R, evX_seq, evX_ops, evX_cond, evX_ret, opsS, wantedS, opS, opv, Env.av, Env.sl, Env.get, setDst, agc, dl, hdp, allAV, em1, unAV, hv, pst_go, Nx]
  rw [evC_eq h rfl]
  unfold codeR at key
  cases ho : evX Φ a30.code (initEnv 0 [.agg D, lv fw (w.map byt)]) (bodyH a30 H) with
  | none => rw [ho] at key; exact key.elim
  | some o =>
    rw [ho] at key
    rcases o with ⟨q, e, H'⟩ | ⟨w, e, H'⟩
    · obtain ⟨rfl, g1⟩ := key
      have hr : a30.results = [.tmp 4] := rfl
      have hp : a30.pure = true := rfl
      simp only [finS, hr, resOf, resS, g1, hp, AV.under, if_true]
    · exact key.elim
end Ey.Da
