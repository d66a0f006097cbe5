/- Run, Walk: by hand. -/
import Derived.Test.YtodehankgheooaaDaDr
set_option maxRecDepth 100000
namespace Ey.Da
open Go (IntKind)
variable {Φ : Nat → Option AFn}

theorem acc {D : List AV} {cls : List Int} {rs : List AV} {rows : List (List Int)} {ends : List Int} {fn fe : Option Bool} (hD : DV D cls rs rows ends fn fe) (hm : May cls rows ends) {s : Nat} (hs : s < rows.length) (c : UInt8) :
    ∃ r k, rs[s]? = some (.list false (ints .i64 r)) ∧ (ints .u8 cls)[c.toNat]? = some (.int .u8 k) ∧ 0 ≤ k ∧ (ints .i64 r)[k.toNat]? = some (.int .i64 (nx cls rows s c)) ∧ -1 ≤ nx cls rows s c ∧ nx cls rows s c < rows.length := by
  have hrl := hD.hrows.length
  have hx := List.getElem?_eq_getElem (show s < rs.length by omega)
  have hr := List.getElem?_eq_getElem hs
  obtain ⟨f, hxe, hf⟩ := hD.hrows.get hx hr
  have hok := hm.rows _ (List.getElem_mem hs)
  have hc := c.toNat_lt
  have hcl := hD.cl
  have hk := ints_get .u8 (show c.toNat < cls.length by omega)
  have hkb := hD.cb _ (List.getElem_mem (show c.toNat < cls.length by omega))
  have hkm : cls[c.toNat] ≤ mxI 0 cls := ((mxI_le (mxI 0 cls) cls 0).1 (Int.le_refl _)).2 _ (List.getElem_mem _)
  have hn : nx cls rows s c = (rows[s].getD cls[c.toNat].toNat 0) := by
    have r1 : rows.getD s [] = rows[s] := by rw [List.getD_eq_getElem?_getD, hr]; rfl
    have r2 : cls.getD c.toNat 0 = cls[c.toNat] := by rw [List.getD_eq_getElem?_getD, List.getElem?_eq_getElem (show c.toNat < cls.length by omega)]; rfl
    unfold nx
    rw [r1, r2]
  rw [hn]
  generalize cls[c.toNat] = k at hk hkb hkm
  generalize rows[s] = r at hr hok hxe hf
  have hl := hok.1
  unfold nCls at hl
  have hkl : k.toNat < r.length := by omega
  have he := ints_get .i64 hkl
  have hg : r.getD k.toNat 0 = r[k.toNat] := by rw [List.getD_eq_getElem?_getD, List.getElem?_eq_getElem hkl]; rfl
  rw [hg]
  have hb := hok.2 _ (List.getElem_mem hkl)
  rw [hxe, ixf hf he] at hx
  exact ⟨r, k, hx, hk, hkb.1, he, hb.1, hb.2⟩

theorem endsat {D : List AV} {cls : List Int} {rs : List AV} {rows : List (List Int)} {ends : List Int} {fn fe : Option Bool} (hD : DV D cls rs rows ends fn fe) (hm : May cls rows ends) {s : Nat} (hs : s < rows.length) :
    lv fe (ints .i64 ends) = .list false (ints .i64 ends) ∧ (ints .i64 ends)[s]? = some (.int .i64 (ends.getD s 0)) := by
  have hl : s < ends.length := by rw [hm.len]; exact hs
  have he := ints_get .i64 hl
  have hg : ends.getD s 0 = ends[s] := by rw [List.getD_eq_getElem?_getD, List.getElem?_eq_getElem hl]; rfl
  exact ⟨ixf hD.hfe he, by rw [he, hg]⟩

theorem pcell (sz : Nat) (cs : List AV) (off : Nat) : part sz false cs off = cs[off]? := rfl
theorem ptab {D : List AV} {cls : List Int} {rs : List AV} {rows : List (List Int)} {ends : List Int} {fn fe : Option Bool} (hD : DV D cls rs rows ends fn fe) : part 256 true D 0 = some (.agg (ints .u8 cls)) := by
  have := hD.len; have := hD.tk
  simp [part, *]
theorem bget {w : List UInt8} {i : Nat} (h : i < w.length) : (w.map byt)[i]? = some (.int .u8 w[i].toNat) := by rw [List.getElem?_map, List.getElem?_eq_getElem h]; rfl

def codeU : ACode := a26.code
def cU1 : ACode := codeU.L
def cU2 : ACode := codeU.R.L
def cU3 : ACode := codeU.R.R.L
def cU4 : ACode := codeU.R.R.R.L.L
def loopU : ACode := codeU.R.R.R.L.R.K
def roundU : ACode := loopU.P
def cU5 : ACode := codeU.R.R.R.R
def cUQ : ACode := .seq cU3 codeU.R.R.R
theorem u_code : codeU = .seq cU1 (.seq cU2 cUQ) := rfl
theorem uq_code : cUQ = .seq cU3 (.seq (.seq cU4 (.block 0 loopU)) cU5) := rfl

structure UI (D : List AV) (cls : List Int) (rows : List (List Int)) (fw : Option Bool) (w : List UInt8) (i : Nat) (e : Env) : Prop where
  e2 : e.get 2 = .v (.imm (.agg D))
  e11 : e.get 11 = .v (lv fw (w.map byt))
  e12 : e.get 12 = .v (.int .i64 w.length)
  e13 : e.get 13 = .v (.int .i64 i)
  le : i ≤ w.length
  st : ∃ s, e.get 5 = .v (.int .i64 (s : Nat)) ∧ s < rows.length ∧ go cls rows 0 (w.take i) = some s

theorem go_step (cls : List Int) (rows : List (List Int)) {w : List UInt8} {i s : Nat} (h : i < w.length) (hs : go cls rows 0 (w.take i) = some s) : go cls rows 0 (w.take (i + 1)) = if nx cls rows s w[i] < 0 then none else some (nx cls rows s w[i]).toNat := by
  rw [List.take_succ_eq_append_getElem h, go_append, hs]
  simp only [Option.bind_some, go]
theorem go_none (cls : List Int) (rows : List (List Int)) {w : List UInt8} {i : Nat} (hs : go cls rows 0 (w.take i) = none) : go cls rows 0 w = none := by
  rw [← List.take_append_drop i w, go_append, hs]; rfl

theorem roundU_ok {D : List AV} {cls : List Int} {rs : List AV} {rows : List (List Int)} {ends : List Int} {fn fe fw : Option Bool} (hD : DV D cls rs rows ends fn fe) (hm : May cls rows ends) {w : List UInt8} (hfw : Fo fw (w.map byt)) (hw : w.length ≤ 2 ^ 40) {i : Nat} {e : Env} {H : Heap} (h : UI D cls rows fw w i e) :
    Pst (evX Φ roundU e H) (fun q e' _ => match q with
      | .nrm => i < w.length ∧ UI D cls rows fw w (i + 1) (keepS [2, 5, 11, 12, 13] e')
      | .exit j => j = 0 ∧ e'.get 2 = .v (.imm (.agg D)) ∧ ∃ s, e'.get 5 = .v (.int .i64 (s : Nat)) ∧ s < rows.length ∧ go cls rows 0 w = some s
      | .ret => e'.get 4 = .v (.int .i64 (-1)) ∧ go cls rows 0 w = none) fun _ _ _ => False := by
  obtain ⟨s, e5, hs, hg⟩ := h.st
  have e2 := h.e2; have e11 := h.e11; have e12 := h.e12; have e13 := h.e13
  have g256 := hD.g256; have hA := ptab hD
  by_cases hi : i < w.length
  · have hll : (i : Int) < (w.length : Int) := by omega
    have w2 : IntKind.wrap .i64 ((i : Int) + 1) = ((i + 1 : Nat) : Int) := by have := wrap_small (n := i + 1) (by omega); push_cast at this ⊢; exact this
    have hb := bget hi
    have stp := go_step cls rows hi hg
    rw [ixf hfw hb] at e11
    obtain ⟨r, k, hx, hk, hk0, he, hlo, hhi⟩ := acc hD hm hs w[i]
    rw [ixf hD.hfn hx] at g256
    have hc := w[i].toNat_lt
    have hcz : ((w[i].toNat : Int) < 256) := by omega
    generalize w[i] = c at hb stp hk he hlo hhi hc hcz
    generalize nx cls rows s c = t at stp he hlo hhi
    by_cases ht : t < 0
    · rw [if_pos ht] at stp
      simp [roundU, loopU, codeU, a26, ACode.R, ACode.L, ACode.K, ACode.P, evX_seq, evX_ops, evX_dops, evX_cond, evX_skip, evX_ret, evX_block, opsS, wantedS, opS, opv, Env.av, Env.sl, Env.get, setDst, e2, e5, e11, e12, e13, binAV, cmpI, hll, hb, icells, ldS, pcell, addrS, agc, lsc, g256, hx, hA, hcz, hk, hk0, he, ht, Pst]
      exact go_none cls rows stp
    · rw [if_neg ht] at stp
      simp [roundU, loopU, codeU, a26, ACode.R, ACode.L, ACode.K, ACode.P, evX_seq, evX_ops, evX_dops, evX_cond, evX_skip, evX_block, opsS, wantedS, opS, opv, Env.av, Env.sl, Env.get, setDst, e2, e5, e11, e12, e13, binAV, cmpI, hll, hb, icells, ldS, pcell, addrS, agc, lsc, g256, hx, hA, hcz, hk, hk0, he, ht, arI, w2, Pst]
      refine ⟨hi, by simp [keepS, Env.get, e2], by simp [keepS, Env.get, h.e11], by simp [keepS, Env.get, e12], by simp [keepS, Env.get], by omega, t.toNat, ?_, by omega, stp⟩
      have : ((t.toNat : Nat) : Int) = t := by omega
      simp [keepS, Env.get, this]
  · have hil : i = w.length := by have := h.le; omega
    subst hil
    rw [List.take_length] at hg
    simp [roundU, loopU, codeU, a26, ACode.R, ACode.L, ACode.K, ACode.P, evX_seq, evX_ops, evX_cond, evX_exit, opsS, wantedS, opS, opv, Env.av, Env.sl, Env.get, setDst, e2, e5, e12, e13, binAV, cmpI, Pst]
    exact ⟨s, rfl, hs, hg⟩

open Classical in
/-- what Run tells -/
noncomputable def runV (cls : List Int) (rows : List (List Int)) (ends : List Int) (w : List UInt8) : Int := if May cls rows ends then runL cls rows ends w else -1

open Classical in
theorem run_ok (hmn : Φ 44 = some a44) (hmx : Φ 42 = some a42) (hm8 : Φ 43 = some a43) (hmy : Φ 21 = some a21) (h : Φ 26 = some a26) {D : List AV} {cls : List Int} {rs : List AV} {rows : List (List Int)} {ends : List Int} {fn fe fw : Option Bool} (hD : DV D cls rs rows ends fn fe) {w : List UInt8} (hfw : Fo fw (w.map byt)) (hw : w.length ≤ 2 ^ 40) {H : Heap} :
    evC Φ 26 [.agg D, lv fw (w.map byt)] H = some (.ret (.int .i64 (runV cls rows ends w)) H) := by
  have em := fun K => dmay_ok hmn hmx hm8 hmy hD (H := K)
  have lw := lenAV_lv hfw
  rw [show (w.map byt).length = w.length by simp] at lw
  have dl := hD.len; have dA := hD.all; have g257 := hD.g257
  have hdp : part 258 true D 0 = some (.agg D) := by simp [part, dl, dA]
  have key : Pst (evX Φ codeU (initEnv 0 [.agg D, lv fw (w.map byt)]) (bodyH a26 H)) (fun x e' _ => x = .ret ∧ e'.get 4 = .v (.int .i64 (runV cls rows ends w))) fun _ _ _ => False := by
    generalize bodyH a26 H = K
    rw [u_code]
    apply pst_seq
    simp [cU1, codeU, a26, ACode.L, evX_ops, opsS, wantedS, opS, opv, Env.av, Env.sl, Env.get, setDst, initEnv, agc, dl, pst_go, Nx]
    apply pst_seq
    by_cases hm : May cls rows ends
    · have em1 := em K
      rw [show decide (May cls rows ends) = true from decide_eq_true hm] at em1
      simp [cU2, codeU, a26, ACode.L, ACode.R, evX_seq, evX_ops, evX_cond, evX_skip, opsS, wantedS, opS, opv, Env.av, Env.sl, Env.get, setDst, agc, dl, hdp, allAV, em1, unAV, pst_go, Nx]
      rw [uq_code]
      apply pst_seq
      simp [cU3, codeU, a26, ACode.L, ACode.R, evX_ops, opsS, wantedS, opS, opv, Env.sl, setDst, pst_go, Nx]
      apply pst_seq
      apply pst_seq
      simp [cU4, codeU, a26, ACode.L, ACode.R, evX_ops, opsS, wantedS, opS, opv, Env.av, Env.sl, Env.get, setDst, lw, i64, pst_go, Nx]
      apply pst_block
      have h0 : 0 < rows.length := List.length_pos_iff.2 hm.ne
      refine (pst_loop (k := [2, 5, 11, 12, 13]) (a := roundU) (Q := fun q e' _ => match q with
        | .nrm => False
        | .exit j => j = 0 ∧ e'.get 2 = .v (.imm (.agg D)) ∧ ∃ s, e'.get 5 = .v (.int .i64 (s : Nat)) ∧ s < rows.length ∧ go cls rows 0 w = some s
        | .ret => e'.get 4 = .v (.int .i64 (-1)) ∧ go cls rows 0 w = none) (R := fun _ _ _ => False) (fun n e H => ∃ i, n = w.length - i ∧ UI D cls rows fw w i e) (fun n e H hi' => ?_) _ _ _ ⟨0, rfl, ?_⟩).mono (fun q e' H' hq => ?_) (fun _ _ _ h => h)
      · obtain ⟨i, rfl, hi'⟩ := hi'
        refine (roundU_ok hD hm hfw hw hi').mono (fun q e' H' hq => ?_) (fun _ _ _ h => h)
        cases q with
        | nrm => exact ⟨_, by have := hq.1; omega, i + 1, rfl, hq.2⟩
        | exit j => exact hq
        | ret => exact hq
      · exact ⟨by simp [keepS, Env.get], by simp [keepS, Env.get], by simp [keepS, Env.get], by simp [keepS, Env.get], by omega, 0, by simp [keepS, Env.get], h0, rfl⟩
      · cases q with
        | nrm => exact hq.elim
        | exit j =>
          obtain ⟨rfl, q2, s, q5, hs, hg⟩ := hq
          obtain ⟨f1, f2⟩ := endsat hD hm hs
          rw [f1] at g257
          have hv : runV cls rows ends w = ends.getD s 0 := by unfold runV runL; rw [if_pos hm, hg]
          rw [hv]
          simp only [if_true, Nx]
          simp [cU5, codeU, a26, ACode.R, evX_seq, evX_ops, evX_ret, opsS, wantedS, opS, opv, Env.av, Env.sl, Env.get, setDst, q2, q5, addrS, part, agc, lsc, icells, g257, ldS, f2, Pst]
        | ret =>
          obtain ⟨q4, hg⟩ := hq
          have hv : runV cls rows ends w = -1 := by unfold runV runL; rw [if_pos hm, hg]
          rw [hv]
          exact ⟨rfl, q4⟩
    · have em1 := em K
      rw [show decide (May cls rows ends) = false from decide_eq_false hm] at em1
      have hv : runV cls rows ends w = -1 := by unfold runV; rw [if_neg hm]
      simp [cU2, codeU, a26, ACode.L, ACode.R, evX_seq, evX_ops, evX_cond, evX_ret, opsS, wantedS, opS, opv, Env.av, Env.sl, Env.get, setDst, agc, dl, hdp, allAV, em1, unAV, hv, pst_go, Nx]
  rw [evC_eq h rfl]
  unfold codeU at key
  cases ho : evX Φ a26.code (initEnv 0 [.agg D, lv fw (w.map byt)]) (bodyH a26 H) with
  | none => rw [ho] at key; exact key.elim
  | some o =>
    rw [ho] at key
    rcases o with ⟨q, e, H'⟩ | ⟨w, e, H'⟩
    · obtain ⟨rfl, g1⟩ := key
      have hr : a26.results = [.tmp 4] := rfl
      have hp : a26.pure = true := rfl
      simp only [finS, hr, resOf, resS, g1, hp, AV.under, if_true]
    · exact key.elim
end Ey.Da
