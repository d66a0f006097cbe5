/- slices.Max, slices.Min: by hand. -/
import Derived.Test.YtodehankgheooaaDaX
import Derived.Test.YtodehankgheooaaDaDfl
import Derived.Test.YtodehankgheooaaEyB3
set_option maxRecDepth 100000
namespace Ey.Da
open Go (IntKind)
variable {Φ : Nat → Option AFn}

theorem icells (k : IntKind) (n : Int) : (AV.int k n).cells = [.int k n] := rfl
theorem ixf {f : Option Bool} {xs : List AV} {i : Nat} {x : AV} (hf : Fo f xs) (hx : xs[i]? = some x) : lv f xs = .list false xs := by
  have : f = some false := Classical.byContradiction fun h => by
    rw [hf h] at hx; simp at hx
  rw [this]; rfl
theorem ints_len (k : IntKind) (l : List Int) : (ints k l).length = l.length := by simp [ints]
theorem ints_get (k : IntKind) {l : List Int} {i : Nat} (h : i < l.length) : (ints k l)[i]? = some (.int k l[i]) := by simp [ints, List.getElem?_eq_getElem h]

/-- at a round's head: the best of those so far -/
structure BI (k : IntKind) (op : Int → Int → Int) (x : Int) (l : List Int) (i : Nat) (e : Env) : Prop where
  e0 : e.get 0 = .v (.list false (ints k (x :: l)))
  e3 : e.get 3 = .v (.int k ((l.take i).foldl op x))
  e4 : e.get 4 = .v (.int .i64 ((i + 1 : Nat) : Int))
  le : i ≤ l.length

theorem fold_step (op : Int → Int → Int) (x : Int) {l : List Int} {i : Nat} (h : i < l.length) : (l.take (i + 1)).foldl op x = op ((l.take i).foldl op x) l[i] := by
  rw [List.take_succ_eq_append_getElem h, List.foldl_append]; rfl

def code_mxi : ACode := a42.code
def c1_mxi : ACode := code_mxi.L
def c2_mxi : ACode := code_mxi.R.L
def c3_mxi : ACode := code_mxi.R.R.L
def cR_mxi : ACode := code_mxi.R.R.R
def c4_mxi : ACode := code_mxi.R.R.R.L.L
def loop_mxi : ACode := code_mxi.R.R.R.L.R.K
def round_mxi : ACode := loop_mxi.P
def c5_mxi : ACode := code_mxi.R.R.R.R
def cQ_mxi : ACode := .seq c3_mxi cR_mxi
theorem eq_mxi : code_mxi = .seq c1_mxi (.seq c2_mxi cQ_mxi) := rfl

theorem round_mxi_ok {x : Int} {l : List Int} (hb : l.length ≤ 2 ^ 40) {i : Nat} {e : Env} {H : Heap} (h : BI .i64 max x l i e) :
    Pst (evX Φ round_mxi e H) (fun q e' _H' => match q with
      | .nrm => i < l.length ∧ BI .i64 max x l (i + 1) (keepS [0, 3, 4] e')
      | .exit j => j = 0 ∧ e'.get 3 = .v (.int .i64 (mxI x l))
      | .ret => False) fun _ _ _ => False := by
  obtain ⟨P, hP⟩ : ∃ P, P = ints .i64 (x :: l) := ⟨_, rfl⟩
  obtain ⟨n, hn⟩ : ∃ n, n = l.length + 1 := ⟨_, rfl⟩
  have hl : lenAV (.list false P) = some n := by rw [hP, hn]; simp [lenAV, ints]
  have e0 := h.e0; have e3 := h.e3; have e4 := h.e4
  rw [← hP] at e0
  by_cases hi : i < l.length
  · have hx : P[i + 1]? = some (.int .i64 l[i]) := by rw [hP]; simp [ints, List.getElem?_eq_getElem hi]
    have fs := fold_step max x hi
    have fin : ∀ e' : Env, e'.get 0 = e.get 0 → e'.get 3 = .v (.int .i64 ((l.take (i + 1)).foldl max x)) → e'.get 4 = .v (.int .i64 ((i + 1 + 1 : Nat) : Int)) → BI .i64 max x l (i + 1) (keepS [0, 3, 4] e') := fun e' g0 g3 g4 =>
      ⟨by simp [keepS, Env.get, g0, h.e0], by simp [keepS, Env.get, g3], by simp [keepS, Env.get, g4], by omega⟩
    rw [fs] at fin
    generalize l[i] = y at hx fin
    generalize (l.take i).foldl max x = m at e3 fin
    obtain ⟨j, hj⟩ : ∃ j, j = i + 1 := ⟨_, rfl⟩
    rw [← hj] at e4 hx
    rw [← hj] at fin
    have hll : (j : Int) < (n : Int) := by omega
    have w2 : IntKind.wrap .i64 ((j : Int) + 1) = ((j + 1 : Nat) : Int) := by have := wrap_small (n := j + 1) (by omega); push_cast at this ⊢; exact this
    simp [round_mxi, loop_mxi, code_mxi, a42, ACode.R, ACode.L, ACode.K, ACode.P, evX_seq, evX_ops, evX_cond, evX_skip, evX_block, opsS, wantedS, opS, opv, Env.av, Env.sl, Env.get, setDst, e0, e3, e4, hl, i64, binAV, cmpI, arI, w2, hll, hx, icells, ldS, part, Pst]
    exact ⟨hi, by rw [← hj]; exact fin _ (by simp [Env.get]) (by simp [Env.get]) (by simp [Env.get])⟩
  · have hil : i = l.length := by have := h.le; omega
    have e3' : e.get 3 = .v (.int .i64 (mxI x l)) := by
      rw [e3, hil, List.take_length]; rfl
    obtain ⟨j, hj⟩ : ∃ j, j = i + 1 := ⟨_, rfl⟩
    rw [← hj] at e4
    have hll : ¬ (j : Int) < (n : Int) := by omega
    simp [round_mxi, loop_mxi, code_mxi, a42, ACode.R, ACode.L, ACode.K, ACode.P, evX_seq, evX_ops, evX_cond, evX_exit, opsS, wantedS, opS, opv, Env.av, Env.sl, Env.get, setDst, e0, e4, hl, i64, binAV, cmpI, hll, Pst]
    exact e3'

theorem mxi_ok (h : Φ 42 = some a42) {f : Option Bool} {x : Int} {l : List Int} {H : Heap} (hf : Fo f (ints .i64 (x :: l))) (hb : l.length ≤ 2 ^ 40) :
    evC Φ 42 [lv f (ints .i64 (x :: l))] H = some (.ret (.int .i64 (mxI x l)) H) := by
  have hx0 : (ints .i64 (x :: l))[0]? = some (.int .i64 x) := rfl
  rw [ixf hf hx0]
  have key : Pst (evX Φ code_mxi (initEnv 0 [.list false (ints .i64 (x :: l))]) (bodyH a42 H)) (fun q e' _ => q = .ret ∧ e'.get 2 = .v (.int .i64 (mxI x l))) fun _ _ _ => False := by
    obtain ⟨P, hP⟩ : ∃ P, P = ints .i64 (x :: l) := ⟨_, rfl⟩
    have hl : lenAV (.list false P) = some (l.length + 1) := by rw [hP]; simp [lenAV, ints]
    have hll2 : ¬ ((l.length : Int) + 1 < 1) := by omega
    rw [← hP] at hx0
    rw [← hP]
    generalize bodyH a42 H = K
    rw [eq_mxi]
    apply pst_seq
    simp [c1_mxi, code_mxi, a42, ACode.L, evX_ops, opsS, wantedS, opS, opv, Env.sl, setDst, initEnv, pst_go, Nx]
    apply pst_seq
    simp [c2_mxi, code_mxi, a42, ACode.L, ACode.R, evX_seq, evX_ops, evX_cond, evX_skip, opsS, wantedS, opS, opv, Env.av, Env.sl, Env.get, setDst, hl, i64, binAV, cmpI, hll2, pst_go, Nx]
    unfold cQ_mxi
    apply pst_seq
    simp [c3_mxi, code_mxi, a42, ACode.L, ACode.R, evX_ops, opsS, wantedS, opS, opv, Env.av, Env.sl, Env.get, setDst, hx0, icells, ldS, part, pst_go, Nx]
    show Pst (evX Φ (.seq (.seq c4_mxi (.block 0 loop_mxi)) c5_mxi) _ _) _ _
    apply pst_seq
    apply pst_seq
    simp [c4_mxi, code_mxi, a42, ACode.L, ACode.R, evX_ops, opsS, wantedS, opS, opv, Env.sl, setDst, pst_go, Nx]
    apply pst_block
    refine (pst_loop (k := [0, 3, 4]) (a := round_mxi) (Q := fun q e' H' => match q with
      | .nrm => False
      | .exit j => j = 0 ∧ e'.get 3 = .v (.int .i64 (mxI x l))
      | .ret => False) (R := fun _ _ _ => False) (fun n e H => ∃ i, n = l.length - i ∧ BI .i64 max x l i e) (fun n e H hi' => ?_) _ _ _ ⟨0, rfl, ?_⟩).mono (fun q e' H' hq => ?_) (fun _ _ _ h => h)
    · obtain ⟨i, rfl, hi'⟩ := hi'
      refine (round_mxi_ok hb hi').mono (fun q e' H' hq => ?_) (fun _ _ _ h => h)
      cases q with
      | nrm => exact ⟨_, by have := hq.1; omega, i + 1, rfl, hq.2⟩
      | exit j => exact hq
      | ret => exact hq
    · exact ⟨by simp [keepS, Env.get, hP], by simp [keepS, Env.get], by simp [keepS, Env.get], by omega⟩
    · cases q with
      | nrm => exact hq.elim
      | ret => exact hq.elim
      | exit j =>
        obtain ⟨rfl, h2⟩ := hq
        simp [c5_mxi, code_mxi, a42, ACode.R, evX_seq, evX_ops, evX_ret, opsS, wantedS, opS, opv, Env.sl, Env.get, setDst, h2, Pst, Nx]
  rw [evC_eq h rfl]
  unfold code_mxi at key
  cases ho : evX Φ a42.code (initEnv 0 [.list false (ints .i64 (x :: l))]) (bodyH a42 H) with
  | none => rw [ho] at key; exact key.elim
  | some o =>
    rw [ho] at key
    rcases o with ⟨q, e, H'⟩ | ⟨w, e, H'⟩
    · obtain ⟨rfl, g1⟩ := key
      have hr : a42.results = [.tmp 2] := rfl
      have hp : a42.pure = true := rfl
      simp only [finS, hr, resOf, resS, g1, hp, AV.under, if_true]
    · exact key.elim

def code_mx8 : ACode := a43.code
def c1_mx8 : ACode := code_mx8.L
def c2_mx8 : ACode := code_mx8.R.L
def c3_mx8 : ACode := code_mx8.R.R.L
def cR_mx8 : ACode := code_mx8.R.R.R
def c4_mx8 : ACode := code_mx8.R.R.R.L.L
def loop_mx8 : ACode := code_mx8.R.R.R.L.R.K
def round_mx8 : ACode := loop_mx8.P
def c5_mx8 : ACode := code_mx8.R.R.R.R
def cQ_mx8 : ACode := .seq c3_mx8 cR_mx8
theorem eq_mx8 : code_mx8 = .seq c1_mx8 (.seq c2_mx8 cQ_mx8) := rfl

theorem round_mx8_ok {x : Int} {l : List Int} (hb : l.length ≤ 2 ^ 40) {i : Nat} {e : Env} {H : Heap} (h : BI .u8 max x l i e) :
    Pst (evX Φ round_mx8 e H) (fun q e' _H' => match q with
      | .nrm => i < l.length ∧ BI .u8 max x l (i + 1) (keepS [0, 3, 4] e')
      | .exit j => j = 0 ∧ e'.get 3 = .v (.int .u8 (mxI x l))
      | .ret => False) fun _ _ _ => False := by
  obtain ⟨P, hP⟩ : ∃ P, P = ints .u8 (x :: l) := ⟨_, rfl⟩
  obtain ⟨n, hn⟩ : ∃ n, n = l.length + 1 := ⟨_, rfl⟩
  have hl : lenAV (.list false P) = some n := by rw [hP, hn]; simp [lenAV, ints]
  have e0 := h.e0; have e3 := h.e3; have e4 := h.e4
  rw [← hP] at e0
  by_cases hi : i < l.length
  · have hx : P[i + 1]? = some (.int .u8 l[i]) := by rw [hP]; simp [ints, List.getElem?_eq_getElem hi]
    have fs := fold_step max x hi
    have fin : ∀ e' : Env, e'.get 0 = e.get 0 → e'.get 3 = .v (.int .u8 ((l.take (i + 1)).foldl max x)) → e'.get 4 = .v (.int .i64 ((i + 1 + 1 : Nat) : Int)) → BI .u8 max x l (i + 1) (keepS [0, 3, 4] e') := fun e' g0 g3 g4 =>
      ⟨by simp [keepS, Env.get, g0, h.e0], by simp [keepS, Env.get, g3], by simp [keepS, Env.get, g4], by omega⟩
    rw [fs] at fin
    generalize l[i] = y at hx fin
    generalize (l.take i).foldl max x = m at e3 fin
    obtain ⟨j, hj⟩ : ∃ j, j = i + 1 := ⟨_, rfl⟩
    rw [← hj] at e4 hx
    rw [← hj] at fin
    have hll : (j : Int) < (n : Int) := by omega
    have w2 : IntKind.wrap .i64 ((j : Int) + 1) = ((j + 1 : Nat) : Int) := by have := wrap_small (n := j + 1) (by omega); push_cast at this ⊢; exact this
    simp [round_mx8, loop_mx8, code_mx8, a43, ACode.R, ACode.L, ACode.K, ACode.P, evX_seq, evX_ops, evX_cond, evX_skip, evX_block, opsS, wantedS, opS, opv, Env.av, Env.sl, Env.get, setDst, e0, e3, e4, hl, i64, binAV, cmpI, arI, w2, hll, hx, icells, ldS, part, Pst]
    exact ⟨hi, by rw [← hj]; exact fin _ (by simp [Env.get]) (by simp [Env.get]) (by simp [Env.get])⟩
  · have hil : i = l.length := by have := h.le; omega
    have e3' : e.get 3 = .v (.int .u8 (mxI x l)) := by
      rw [e3, hil, List.take_length]; rfl
    obtain ⟨j, hj⟩ : ∃ j, j = i + 1 := ⟨_, rfl⟩
    rw [← hj] at e4
    have hll : ¬ (j : Int) < (n : Int) := by omega
    simp [round_mx8, loop_mx8, code_mx8, a43, ACode.R, ACode.L, ACode.K, ACode.P, evX_seq, evX_ops, evX_cond, evX_exit, opsS, wantedS, opS, opv, Env.av, Env.sl, Env.get, setDst, e0, e4, hl, i64, binAV, cmpI, hll, Pst]
    exact e3'

theorem mx8_ok (h : Φ 43 = some a43) {f : Option Bool} {x : Int} {l : List Int} {H : Heap} (hf : Fo f (ints .u8 (x :: l))) (hb : l.length ≤ 2 ^ 40) :
    evC Φ 43 [lv f (ints .u8 (x :: l))] H = some (.ret (.int .u8 (mxI x l)) H) := by
  have hx0 : (ints .u8 (x :: l))[0]? = some (.int .u8 x) := rfl
  rw [ixf hf hx0]
  have key : Pst (evX Φ code_mx8 (initEnv 0 [.list false (ints .u8 (x :: l))]) (bodyH a43 H)) (fun q e' _ => q = .ret ∧ e'.get 2 = .v (.int .u8 (mxI x l))) fun _ _ _ => False := by
    obtain ⟨P, hP⟩ : ∃ P, P = ints .u8 (x :: l) := ⟨_, rfl⟩
    have hl : lenAV (.list false P) = some (l.length + 1) := by rw [hP]; simp [lenAV, ints]
    have hll2 : ¬ ((l.length : Int) + 1 < 1) := by omega
    rw [← hP] at hx0
    rw [← hP]
    generalize bodyH a43 H = K
    rw [eq_mx8]
    apply pst_seq
    simp [c1_mx8, code_mx8, a43, ACode.L, evX_ops, opsS, wantedS, opS, opv, Env.sl, setDst, initEnv, pst_go, Nx]
    apply pst_seq
    simp [c2_mx8, code_mx8, a43, ACode.L, ACode.R, evX_seq, evX_ops, evX_cond, evX_skip, opsS, wantedS, opS, opv, Env.av, Env.sl, Env.get, setDst, hl, i64, binAV, cmpI, hll2, pst_go, Nx]
    unfold cQ_mx8
    apply pst_seq
    simp [c3_mx8, code_mx8, a43, ACode.L, ACode.R, evX_ops, opsS, wantedS, opS, opv, Env.av, Env.sl, Env.get, setDst, hx0, icells, ldS, part, pst_go, Nx]
    show Pst (evX Φ (.seq (.seq c4_mx8 (.block 0 loop_mx8)) c5_mx8) _ _) _ _
    apply pst_seq
    apply pst_seq
    simp [c4_mx8, code_mx8, a43, ACode.L, ACode.R, evX_ops, opsS, wantedS, opS, opv, Env.sl, setDst, pst_go, Nx]
    apply pst_block
    refine (pst_loop (k := [0, 3, 4]) (a := round_mx8) (Q := fun q e' H' => match q with
      | .nrm => False
      | .exit j => j = 0 ∧ e'.get 3 = .v (.int .u8 (mxI x l))
      | .ret => False) (R := fun _ _ _ => False) (fun n e H => ∃ i, n = l.length - i ∧ BI .u8 max x l i e) (fun n e H hi' => ?_) _ _ _ ⟨0, rfl, ?_⟩).mono (fun q e' H' hq => ?_) (fun _ _ _ h => h)
    · obtain ⟨i, rfl, hi'⟩ := hi'
      refine (round_mx8_ok hb hi').mono (fun q e' H' hq => ?_) (fun _ _ _ h => h)
      cases q with
      | nrm => exact ⟨_, by have := hq.1; omega, i + 1, rfl, hq.2⟩
      | exit j => exact hq
      | ret => exact hq
    · exact ⟨by simp [keepS, Env.get, hP], by simp [keepS, Env.get], by simp [keepS, Env.get], by omega⟩
    · cases q with
      | nrm => exact hq.elim
      | ret => exact hq.elim
      | exit j =>
        obtain ⟨rfl, h2⟩ := hq
        simp [c5_mx8, code_mx8, a43, ACode.R, evX_seq, evX_ops, evX_ret, opsS, wantedS, opS, opv, Env.sl, Env.get, setDst, h2, Pst, Nx]
  rw [evC_eq h rfl]
  unfold code_mx8 at key
  cases ho : evX Φ a43.code (initEnv 0 [.list false (ints .u8 (x :: l))]) (bodyH a43 H) with
  | none => rw [ho] at key; exact key.elim
  | some o =>
    rw [ho] at key
    rcases o with ⟨q, e, H'⟩ | ⟨w, e, H'⟩
    · obtain ⟨rfl, g1⟩ := key
      have hr : a43.results = [.tmp 2] := rfl
      have hp : a43.pure = true := rfl
      simp only [finS, hr, resOf, resS, g1, hp, AV.under, if_true]
    · exact key.elim

def code_mni : ACode := a44.code
def c1_mni : ACode := code_mni.L
def c2_mni : ACode := code_mni.R.L
def c3_mni : ACode := code_mni.R.R.L
def cR_mni : ACode := code_mni.R.R.R
def c4_mni : ACode := code_mni.R.R.R.L.L
def loop_mni : ACode := code_mni.R.R.R.L.R.K
def round_mni : ACode := loop_mni.P
def c5_mni : ACode := code_mni.R.R.R.R
def cQ_mni : ACode := .seq c3_mni cR_mni
theorem eq_mni : code_mni = .seq c1_mni (.seq c2_mni cQ_mni) := rfl

theorem round_mni_ok {x : Int} {l : List Int} (hb : l.length ≤ 2 ^ 40) {i : Nat} {e : Env} {H : Heap} (h : BI .i64 min x l i e) :
    Pst (evX Φ round_mni e H) (fun q e' _H' => match q with
      | .nrm => i < l.length ∧ BI .i64 min x l (i + 1) (keepS [0, 3, 4] e')
      | .exit j => j = 0 ∧ e'.get 3 = .v (.int .i64 (mnI x l))
      | .ret => False) fun _ _ _ => False := by
  obtain ⟨P, hP⟩ : ∃ P, P = ints .i64 (x :: l) := ⟨_, rfl⟩
  obtain ⟨n, hn⟩ : ∃ n, n = l.length + 1 := ⟨_, rfl⟩
  have hl : lenAV (.list false P) = some n := by rw [hP, hn]; simp [lenAV, ints]
  have e0 := h.e0; have e3 := h.e3; have e4 := h.e4
  rw [← hP] at e0
  by_cases hi : i < l.length
  · have hx : P[i + 1]? = some (.int .i64 l[i]) := by rw [hP]; simp [ints, List.getElem?_eq_getElem hi]
    have fs := fold_step min x hi
    have fin : ∀ e' : Env, e'.get 0 = e.get 0 → e'.get 3 = .v (.int .i64 ((l.take (i + 1)).foldl min x)) → e'.get 4 = .v (.int .i64 ((i + 1 + 1 : Nat) : Int)) → BI .i64 min x l (i + 1) (keepS [0, 3, 4] e') := fun e' g0 g3 g4 =>
      ⟨by simp [keepS, Env.get, g0, h.e0], by simp [keepS, Env.get, g3], by simp [keepS, Env.get, g4], by omega⟩
    rw [fs] at fin
    generalize l[i] = y at hx fin
    generalize (l.take i).foldl min x = m at e3 fin
    obtain ⟨j, hj⟩ : ∃ j, j = i + 1 := ⟨_, rfl⟩
    rw [← hj] at e4 hx
    rw [← hj] at fin
    have hll : (j : Int) < (n : Int) := by omega
    have w2 : IntKind.wrap .i64 ((j : Int) + 1) = ((j + 1 : Nat) : Int) := by have := wrap_small (n := j + 1) (by omega); push_cast at this ⊢; exact this
    simp [round_mni, loop_mni, code_mni, a44, ACode.R, ACode.L, ACode.K, ACode.P, evX_seq, evX_ops, evX_cond, evX_skip, evX_block, opsS, wantedS, opS, opv, Env.av, Env.sl, Env.get, setDst, e0, e3, e4, hl, i64, binAV, cmpI, arI, w2, hll, hx, icells, ldS, part, Pst]
    exact ⟨hi, by rw [← hj]; exact fin _ (by simp [Env.get]) (by simp [Env.get]) (by simp [Env.get])⟩
  · have hil : i = l.length := by have := h.le; omega
    have e3' : e.get 3 = .v (.int .i64 (mnI x l)) := by
      rw [e3, hil, List.take_length]; rfl
    obtain ⟨j, hj⟩ : ∃ j, j = i + 1 := ⟨_, rfl⟩
    rw [← hj] at e4
    have hll : ¬ (j : Int) < (n : Int) := by omega
    simp [round_mni, loop_mni, code_mni, a44, ACode.R, ACode.L, ACode.K, ACode.P, evX_seq, evX_ops, evX_cond, evX_exit, opsS, wantedS, opS, opv, Env.av, Env.sl, Env.get, setDst, e0, e4, hl, i64, binAV, cmpI, hll, Pst]
    exact e3'

theorem mni_ok (h : Φ 44 = some a44) {f : Option Bool} {x : Int} {l : List Int} {H : Heap} (hf : Fo f (ints .i64 (x :: l))) (hb : l.length ≤ 2 ^ 40) :
    evC Φ 44 [lv f (ints .i64 (x :: l))] H = some (.ret (.int .i64 (mnI x l)) H) := by
  have hx0 : (ints .i64 (x :: l))[0]? = some (.int .i64 x) := rfl
  rw [ixf hf hx0]
  have key : Pst (evX Φ code_mni (initEnv 0 [.list false (ints .i64 (x :: l))]) (bodyH a44 H)) (fun q e' _ => q = .ret ∧ e'.get 2 = .v (.int .i64 (mnI x l))) fun _ _ _ => False := by
    obtain ⟨P, hP⟩ : ∃ P, P = ints .i64 (x :: l) := ⟨_, rfl⟩
    have hl : lenAV (.list false P) = some (l.length + 1) := by rw [hP]; simp [lenAV, ints]
    have hll2 : ¬ ((l.length : Int) + 1 < 1) := by omega
    rw [← hP] at hx0
    rw [← hP]
    generalize bodyH a44 H = K
    rw [eq_mni]
    apply pst_seq
    simp [c1_mni, code_mni, a44, ACode.L, evX_ops, opsS, wantedS, opS, opv, Env.sl, setDst, initEnv, pst_go, Nx]
    apply pst_seq
    simp [c2_mni, code_mni, a44, ACode.L, ACode.R, evX_seq, evX_ops, evX_cond, evX_skip, opsS, wantedS, opS, opv, Env.av, Env.sl, Env.get, setDst, hl, i64, binAV, cmpI, hll2, pst_go, Nx]
    unfold cQ_mni
    apply pst_seq
    simp [c3_mni, code_mni, a44, ACode.L, ACode.R, evX_ops, opsS, wantedS, opS, opv, Env.av, Env.sl, Env.get, setDst, hx0, icells, ldS, part, pst_go, Nx]
    show Pst (evX Φ (.seq (.seq c4_mni (.block 0 loop_mni)) c5_mni) _ _) _ _
    apply pst_seq
    apply pst_seq
    simp [c4_mni, code_mni, a44, ACode.L, ACode.R, evX_ops, opsS, wantedS, opS, opv, Env.sl, setDst, pst_go, Nx]
    apply pst_block
    refine (pst_loop (k := [0, 3, 4]) (a := round_mni) (Q := fun q e' H' => match q with
      | .nrm => False
      | .exit j => j = 0 ∧ e'.get 3 = .v (.int .i64 (mnI x l))
      | .ret => False) (R := fun _ _ _ => False) (fun n e H => ∃ i, n = l.length - i ∧ BI .i64 min x l i e) (fun n e H hi' => ?_) _ _ _ ⟨0, rfl, ?_⟩).mono (fun q e' H' hq => ?_) (fun _ _ _ h => h)
    · obtain ⟨i, rfl, hi'⟩ := hi'
      refine (round_mni_ok hb hi').mono (fun q e' H' hq => ?_) (fun _ _ _ h => h)
      cases q with
      | nrm => exact ⟨_, by have := hq.1; omega, i + 1, rfl, hq.2⟩
      | exit j => exact hq
      | ret => exact hq
    · exact ⟨by simp [keepS, Env.get, hP], by simp [keepS, Env.get], by simp [keepS, Env.get], by omega⟩
    · cases q with
      | nrm => exact hq.elim
      | ret => exact hq.elim
      | exit j =>
        obtain ⟨rfl, h2⟩ := hq
        simp [c5_mni, code_mni, a44, ACode.R, evX_seq, evX_ops, evX_ret, opsS, wantedS, opS, opv, Env.sl, Env.get, setDst, h2, Pst, Nx]
  rw [evC_eq h rfl]
  unfold code_mni at key
  cases ho : evX Φ a44.code (initEnv 0 [.list false (ints .i64 (x :: l))]) (bodyH a44 H) with
  | none => rw [ho] at key; exact key.elim
  | some o =>
    rw [ho] at key
    rcases o with ⟨q, e, H'⟩ | ⟨w, e, H'⟩
    · obtain ⟨rfl, g1⟩ := key
      have hr : a44.results = [.tmp 2] := rfl
      have hp : a44.pure = true := rfl
      simp only [finS, hr, resOf, resS, g1, hp, AV.under, if_true]
    · exact key.elim
end Ey.Da
