/- dfa.May: by hand. -/
import Derived.Test.YtodehankgheooaaDaDm
set_option maxRecDepth 100000
namespace Ey.Da
open Go (IntKind)
variable {Φ : Nat → Option AFn}

/-- two lists, place by place -/
inductive All2 {α β : Type} (R : α → β → Prop) : List α → List β → Prop
  | nil : All2 R [] []
  | cons {a : α} {b : β} {x : List α} {y : List β} (h : R a b) (t : All2 R x y) : All2 R (a :: x) (b :: y)
theorem All2.length {α β : Type} {R : α → β → Prop} {x : List α} {y : List β} (h : All2 R x y) : x.length = y.length := by
  induction h with
  | nil => rfl
  | cons _ _ ih => simp [ih]
theorem All2.get {α β : Type} {R : α → β → Prop} {x : List α} {y : List β} (h : All2 R x y) : ∀ {i : Nat} {a : α} {b : β}, x[i]? = some a → y[i]? = some b → R a b := by
  induction h with
  | nil => intro i a b ha; simp at ha
  | cons h _ ih =>
    intro i a b ha hb
    cases i with
    | zero => simp at ha hb; subst ha; subst hb; exact h
    | succ i => simp at ha hb; exact ih ha hb

def RowV (x : AV) (r : List Int) : Prop := ∃ f, x = lv f (ints .i64 r) ∧ Fo f (ints .i64 r)

/-- a machine as a value -/
structure DV (D : List AV) (cls : List Int) (rs : List AV) (rows : List (List Int)) (ends : List Int) (fn fe : Option Bool) : Prop where
  len : D.length = 258
  g256 : D[256]? = some (lv fn rs)
  g257 : D[257]? = some (lv fe (ints .i64 ends))
  tk : D.take 256 = ints .u8 cls
  all : D.take 258 = D
  cl : cls.length = 256
  cb : ∀ x ∈ cls, 0 ≤ x ∧ x < 256
  rl : rows.length ≤ 2 ^ 40
  hfn : Fo fn rs
  hfe : Fo fe (ints .i64 ends)
  hrows : All2 RowV rs rows

theorem agc (cs : List AV) : (AV.agg cs).cells = cs := rfl
theorem lvc (f : Option Bool) (xs : List AV) : (lv f xs).cells = [lv f xs] := lv_cells f xs

def RowOk (cls : List Int) (rows : List (List Int)) (r : List Int) : Prop := (r.length : Int) = nCls cls ∧ ∀ x ∈ r, -1 ≤ x ∧ x < rows.length

theorem ncls_bd {cls : List Int} (h : ∀ x ∈ cls, 0 ≤ x ∧ x < 256) : 1 ≤ nCls cls ∧ nCls cls ≤ 256 := by
  have h1 : mxI 0 cls ≤ 255 := (mxI_le 255 cls 0).2 ⟨by omega, fun x hx => by have := h x hx; omega⟩
  have h2 : 0 ≤ mxI 0 cls := ((mxI_le (mxI 0 cls) cls 0).1 (Int.le_refl _)).1
  unfold nCls
  omega

def codeY : ACode := a21.code
def cY1 : ACode := codeY.L
def cY2 : ACode := codeY.R.L
def cY3 : ACode := codeY.R.R.L
def cY4 : ACode := codeY.R.R.R.L.L
def loopY : ACode := codeY.R.R.R.L.R.K
def roundY : ACode := loopY.P
def cY5 : ACode := codeY.R.R.R.R
def cYR : ACode := codeY.R.R.R
def cYQ : ACode := .seq cY3 cYR
theorem y_code : codeY = .seq cY1 (.seq cY2 cYQ) := rfl

structure YI (D : List AV) (cls : List Int) (rs : List AV) (rows : List (List Int)) (fn : Option Bool) (i : Nat) (e : Env) : Prop where
  e1 : e.get 1 = .v (.imm (.agg D))
  e3 : e.get 3 = .v (.int .i64 (nCls cls))
  e31 : e.get 31 = .v (lv fn rs)
  e32 : e.get 32 = .v (.int .i64 rows.length)
  e33 : e.get 33 = .v (.int .i64 i)
  le : i ≤ rows.length
  ok : ∀ r ∈ rows.take i, RowOk cls rows r

theorem roundY_ok (hmn : Φ 44 = some a44) (hmx : Φ 42 = some a42) {D : List AV} {cls : List Int} {rs : List AV} {rows : List (List Int)} {ends : List Int} {fn fe : Option Bool} (hD : DV D cls rs rows ends fn fe) {i : Nat} {e : Env} {H : Heap} (h : YI D cls rs rows fn i e) :
    Pst (evX Φ roundY e H) (fun q e' _ => match q with
      | .nrm => i < rows.length ∧ YI D cls rs rows fn (i + 1) (keepS [1, 3, 31, 32, 33, 42, 43, 44, 47, 48, 49, 50, 51, 52] e')
      | .exit j => j = 0 ∧ ∀ r ∈ rows, RowOk cls rows r
      | .ret => e'.get 2 = .v (.bool false) ∧ ∃ r ∈ rows, ¬ RowOk cls rows r) fun _ _ _ => False := by
  have hrl := hD.hrows.length
  have hrb := hD.rl
  have hlr := lenAV_lv hD.hfn
  rw [hrl] at hlr
  have e1 := h.e1; have e3 := h.e3; have e31 := h.e31; have e32 := h.e32; have e33 := h.e33
  have g256 := hD.g256; have g257 := hD.g257; have dl := hD.len
  have hnb := ncls_bd hD.cb
  by_cases hi : i < rows.length
  · have hll : ((i : Int) < (rows.length : Int)) := by omega
    have w2 : IntKind.wrap .i64 ((i : Int) + 1) = ((i + 1 : Nat) : Int) := by have := wrap_small (n := i + 1) (by omega); push_cast at this ⊢; exact this
    have hx := List.getElem?_eq_getElem (show i < rs.length by omega)
    have hr := List.getElem?_eq_getElem hi
    have hv := hD.hrows.get hx hr
    have hm := List.getElem_mem hi
    have t1 : rows.take (i + 1) = rows.take i ++ [rows[i]] := List.take_succ_eq_append_getElem hi
    rw [ixf hD.hfn hx] at e31
    generalize rs[i] = x at hx hv
    generalize rows[i] = r at hv hm t1
    obtain ⟨f, rfl, hf⟩ := hv
    have lr := lenAV_lv hf
    rw [ints_len] at lr
    by_cases h1 : (r.length : Int) = nCls cls
    · have h1b : ((r.length : Int) != nCls cls) = false := by simpa using h1
      cases r with
      | nil => simp at h1; omega
      | cons y l =>
        have mn := mni_ok hmn (H := H) hf (by simp at h1; omega)
        have mx := mxi_ok hmx (H := H) hf (by simp at h1; omega)
        have i1 := le_mnI (-1) l y
        have i2 := mxI_le ((rows.length : Int) - 1) l y
        generalize mnI y l = A at mn i1
        generalize mxI y l = B at mx i2
        obtain ⟨P, hP⟩ : ∃ P, P = lv f (ints .i64 (y :: l)) := ⟨_, rfl⟩
        have hPc : P.cells = [P] := by rw [hP, lvc]
        obtain ⟨rl, hrl2⟩ : ∃ n : Nat, n = (y :: l).length := ⟨_, rfl⟩
        rw [← hP] at mn mx lr hx
        rw [← hrl2] at lr h1b
        by_cases h2 : A < -1
        · simp [roundY, loopY, codeY, a21, ACode.R, ACode.L, ACode.K, ACode.P, evX_seq, evX_ops, evX_dops, evX_cond, evX_skip, evX_ret, evX_block, opsS, wantedS, opS, opv, Env.av, Env.sl, Env.get, setDst, e3, e31, e32, e33, binAV, cmpI, hll, hx, hPc, ldS, part, lr, i64, h1b, allAV, mn, h2, Pst]
          refine ⟨_, hm, fun hq => ?_⟩
          have : ∀ x ∈ y :: l, -1 ≤ x := fun x hx => (hq.2 x hx).1
          have := i1.2 ⟨this y (by simp), fun x hx => this x (by simp [hx])⟩
          omega
        · by_cases h3 : (rows.length : Int) ≤ B
          · simp [roundY, loopY, codeY, a21, ACode.R, ACode.L, ACode.K, ACode.P, evX_seq, evX_ops, evX_dops, evX_cond, evX_skip, evX_ret, evX_block, opsS, wantedS, opS, opv, Env.av, Env.sl, Env.get, setDst, e1, e3, e31, e32, e33, binAV, cmpI, hll, hx, hPc, ldS, part, lr, i64, h1b, allAV, mn, mx, h2, h3, addrS, agc, lvc, g256, hlr, Pst]
            refine ⟨_, hm, fun hq => ?_⟩
            have : ∀ x ∈ y :: l, x < rows.length := fun x hx => (hq.2 x hx).2
            have := i2.2 ⟨by have := this y (by simp); omega, fun x hx => by have := this x (by simp [hx]); omega⟩
            omega
          · simp [roundY, loopY, codeY, a21, ACode.R, ACode.L, ACode.K, ACode.P, evX_seq, evX_ops, evX_dops, evX_cond, evX_skip, evX_block, opsS, wantedS, opS, opv, Env.av, Env.sl, Env.get, setDst, e1, e3, e31, e32, e33, binAV, cmpI, hll, hx, hPc, ldS, part, lr, i64, h1b, allAV, mn, mx, h2, h3, addrS, agc, lvc, g256, hlr, arI, w2, Pst]
            refine ⟨hi, by simp [keepS, Env.get, e1], by simp [keepS, Env.get, e3], by simp [keepS, Env.get, h.e31], by simp [keepS, Env.get, e32], by simp [keepS, Env.get], by omega, fun q hq => ?_⟩
            rw [t1] at hq
            rcases List.mem_append.1 hq with hq | hq
            · exact h.ok q hq
            · rw [List.mem_singleton] at hq
              subst hq
              have a1 := i1.1 (by omega)
              have a2 := i2.1 (by omega)
              refine ⟨h1, fun x hx => ?_⟩
              rcases List.mem_cons.1 hx with rfl | hx
              · exact ⟨a1.1, by have := a2.1; omega⟩
              · exact ⟨a1.2 x hx, by have := a2.2 x hx; omega⟩
    · have h1b : ((r.length : Int) != nCls cls) = true := by simpa using h1
      simp [roundY, loopY, codeY, a21, ACode.R, ACode.L, ACode.K, ACode.P, evX_seq, evX_ops, evX_dops, evX_cond, evX_skip, evX_ret, evX_block, opsS, wantedS, opS, opv, Env.av, Env.sl, Env.get, setDst, e3, e31, e32, e33, binAV, cmpI, hll, hx, lvc, ldS, part, lr, i64, h1b, Pst]
      exact ⟨_, hm, fun hq => h1 hq.1⟩
  · have hil : i = rows.length := by have := h.le; omega
    subst hil
    have hok := h.ok
    rw [List.take_length] at hok
    simp [roundY, loopY, codeY, a21, ACode.R, ACode.L, ACode.K, ACode.P, evX_seq, evX_ops, evX_cond, evX_exit, opsS, wantedS, opS, opv, Env.av, Env.sl, Env.get, setDst, e32, e33, binAV, cmpI, Pst]
    exact hok
theorem may_iff {cls : List Int} {rows : List (List Int)} {ends : List Int} : May cls rows ends ↔ rows ≠ [] ∧ ends.length = rows.length ∧ (∀ x ∈ ends, -1 ≤ x) ∧ ∀ r ∈ rows, RowOk cls rows r :=
  ⟨fun h => ⟨h.ne, h.len, h.lo, h.rows⟩, fun ⟨h1, h2, h3, h4⟩ => ⟨h1, h2, h3, h4⟩⟩

open Classical in
theorem dmay_ok (hmn : Φ 44 = some a44) (hmx : Φ 42 = some a42) (hm8 : Φ 43 = some a43) (h : Φ 21 = some a21) {D : List AV} {cls : List Int} {rs : List AV} {rows : List (List Int)} {ends : List Int} {fn fe : Option Bool} (hD : DV D cls rs rows ends fn fe) {H : Heap} :
    evC Φ 21 [.agg D] H = some (.ret (.bool (decide (May cls rows ends))) H) := by
  have g256 := hD.g256; have g257 := hD.g257; have dl := hD.len; have tk := hD.tk
  have hnb := ncls_bd hD.cb
  have hlr := lenAV_lv hD.hfn
  rw [hD.hrows.length] at hlr
  have hle := lenAV_lv hD.hfe
  rw [ints_len] at hle
  have hrl := hD.rl
  have key : Pst (evX Φ codeY (initEnv 0 [.agg D]) (bodyH a21 H)) (fun x e' _ => x = .ret ∧ e'.get 2 = .v (.bool (decide (May cls rows ends)))) fun _ _ _ => False := by
    generalize bodyH a21 H = K
    rw [y_code]
    apply pst_seq
    simp [cY1, codeY, a21, ACode.L, evX_ops, opsS, wantedS, opS, opv, Env.av, Env.sl, Env.get, setDst, initEnv, agc, dl, pst_go, Nx]
    apply pst_seq
    have hcl := hD.cl
    have hcb := hD.cb
    have hmx : evC Φ 43 [.list false (ints .u8 cls)] K = some (.ret (.int .u8 (nCls cls - 1)) K) := by
      match cls, hcl, hcb with
      | c0 :: l, hcl, hcb =>
        have := mx8_ok hm8 (f := some false) (x := c0) (l := l) (H := K) (fo_false _) (by simp at hcl; omega)
        have e : nCls (c0 :: l) - 1 = mxI c0 l := by
          have h0 := hcb c0 (by simp)
          unfold nCls mxI
          simp only [List.foldl_cons]
          rw [show max 0 c0 = c0 by omega]
          omega
        rw [e]; exact this
    have cl256 : (ints .u8 cls).length = 256 := by rw [ints_len]; exact hcl
    have tk2 : (ints .u8 cls).take 256 = ints .u8 cls := List.take_of_length_le (by omega)
    have w1 : IntKind.wrap .i64 (nCls cls - 1) = nCls cls - 1 := by
      have := wrap_small (n := (nCls cls - 1).toNat) (by omega)
      rw [show (((nCls cls - 1).toNat : Nat) : Int) = nCls cls - 1 by omega] at this
      exact this
    have w2 : IntKind.wrap .i64 (nCls cls) = nCls cls := by
      have := wrap_small (n := (nCls cls).toNat) (by omega)
      rw [show (((nCls cls).toNat : Nat) : Int) = nCls cls by omega] at this
      exact this
    simp [cY2, codeY, a21, ACode.L, ACode.R, evX_ops, opsS, wantedS, opS, opv, Env.av, Env.sl, Env.get, setDst, addrS, part, agc, dl, tk, optAV, cl256, slBounds, tk2, allAV, hmx, w1, binAV, arI, w2, pst_go, Nx]
    unfold cYQ
    apply pst_seq
    by_cases h1 : (rows.length : Int) < 1
    · have hno : ¬ May cls rows ends := fun hm => hm.ne (by have : rows.length = 0 := by omega
                                                            exact List.length_eq_zero_iff.1 this)
      simp [cY3, codeY, a21, ACode.L, ACode.R, evX_seq, evX_ops, evX_cond, evX_ret, opsS, wantedS, opS, opv, Env.av, Env.sl, Env.get, setDst, addrS, part, agc, lvc, g256, hlr, i64, binAV, cmpI, h1, pst_go, Nx, hno]
    · by_cases h2 : ends.length = rows.length
      · have h2b : ((ends.length : Int) != rows.length) = false := by rw [bne_eq_false_iff_eq]; omega
        match ends, h2, h2b, hle, g257, hD with
        | [], h2, _, _, _, _ => simp at h2; omega
        | y :: l, h2, h2b, hle, g257, hD =>
        have mn := mni_ok hmn (H := K) hD.hfe (by simp at h2; omega)
        have i1 := le_mnI (-1) l y
        generalize mnI y l = A at mn i1
        obtain ⟨P, hP⟩ : ∃ P, P = lv fe (ints .i64 (y :: l)) := ⟨_, rfl⟩
        obtain ⟨m, hm⟩ : ∃ m, m = (y :: l).length := ⟨_, rfl⟩
        have hPc : P.cells = [P] := by rw [hP, lvc]
        rw [← hP] at mn hle g257
        rw [← hm] at hle h2b
        by_cases h3 : A < -1
        · have hno : ¬ May cls rows (y :: l) := fun hm => by
            have := i1.2 ⟨hm.lo y (by simp), fun x hx => hm.lo x (by simp [hx])⟩
            omega
          simp [cY3, codeY, a21, ACode.L, ACode.R, evX_seq, evX_ops, evX_cond, evX_ret, opsS, wantedS, opS, opv, Env.av, Env.sl, Env.get, setDst, addrS, part, agc, lvc, g256, g257, hlr, hle, i64, binAV, cmpI, h1, h2b, allAV, mn, h3, hPc, pst_go, Nx, hno]
        · have hmay : May cls rows (y :: l) ↔ ∀ r ∈ rows, RowOk cls rows r := by
            rw [may_iff]
            refine ⟨fun hm => hm.2.2.2, fun hm => ⟨fun hq => h1 (by rw [hq]; simp), h2, fun x hx => ?_, hm⟩⟩
            have a1 := i1.1 (by omega)
            rcases List.mem_cons.1 hx with rfl | hx
            · exact a1.1
            · exact a1.2 x hx
          rw [show decide (May cls rows (y :: l)) = decide (∀ r ∈ rows, RowOk cls rows r) from decide_eq_decide.2 hmay]
          simp [cY3, codeY, a21, ACode.L, ACode.R, evX_seq, evX_ops, evX_cond, evX_skip, opsS, wantedS, opS, opv, Env.av, Env.sl, Env.get, setDst, addrS, part, agc, lvc, g256, g257, hlr, hle, i64, binAV, cmpI, h1, h2b, allAV, mn, h3, hPc, pst_go, Nx]
          show Pst (evX Φ (.seq (.seq cY4 (.block 0 loopY)) cY5) _ _) _ _
          apply pst_seq
          apply pst_seq
          simp [cY4, codeY, a21, ACode.L, ACode.R, evX_ops, opsS, wantedS, opS, opv, Env.av, Env.sl, Env.get, setDst, addrS, part, agc, lvc, g256, hlr, i64, pst_go, Nx]
          apply pst_block
          refine (pst_loop (k := [1, 3, 31, 32, 33, 42, 43, 44, 47, 48, 49, 50, 51, 52]) (a := roundY) (Q := fun q e' H' => match q with
            | .nrm => False
            | .exit j => j = 0 ∧ ∀ r ∈ rows, RowOk cls rows r
            | .ret => e'.get 2 = .v (.bool false) ∧ ∃ r ∈ rows, ¬ RowOk cls rows r) (R := fun _ _ _ => False) (fun n e H => ∃ i, n = rows.length - i ∧ YI D cls rs rows fn i e) (fun n e H hi' => ?_) _ _ _ ⟨0, rfl, ?_⟩).mono (fun q e' H' hq => ?_) (fun _ _ _ h => h)
          · obtain ⟨i, rfl, hi'⟩ := hi'
            refine (roundY_ok hmn ‹Φ 42 = some a42› hD hi').mono (fun q e' H' hq => ?_) (fun _ _ _ h => h)
            cases q with
            | nrm => exact ⟨_, by have := hq.1; omega, i + 1, rfl, hq.2⟩
            | exit j => exact hq
            | ret => exact hq
          · exact ⟨by simp [keepS, Env.get], by simp [keepS, Env.get], by simp [keepS, Env.get], by simp [keepS, Env.get], by simp [keepS, Env.get], by omega, fun r hr => by simp at hr⟩
          · cases q with
            | nrm => exact hq.elim
            | exit j =>
              obtain ⟨rfl, hall⟩ := hq
              simp [cY5, codeY, a21, ACode.R, evX_seq, evX_ops, evX_ret, opsS, wantedS, opS, opv, Env.sl, Env.get, setDst, Pst, Nx]
              exact hall
            | ret =>
              obtain ⟨q1, r, hr, hbad⟩ := hq
              refine ⟨rfl, ?_⟩
              rw [q1]
              have : ¬ ∀ r ∈ rows, RowOk cls rows r := fun hq => hbad (hq r hr)
              simp only [this, decide_false]
      · have h2b : ((ends.length : Int) != rows.length) = true := by rw [bne_iff_ne]; omega
        have hno : ¬ May cls rows ends := fun hm => h2 hm.len
        simp [cY3, codeY, a21, ACode.L, ACode.R, evX_seq, evX_ops, evX_cond, evX_ret, opsS, wantedS, opS, opv, Env.av, Env.sl, Env.get, setDst, addrS, part, agc, lvc, g256, g257, hlr, hle, i64, binAV, cmpI, h1, h2b, pst_go, Nx, hno]
  rw [evC_eq h rfl]
  unfold codeY at key
  cases ho : evX Φ a21.code (initEnv 0 [.agg D]) (bodyH a21 H) with
  | none => rw [ho] at key; exact key.elim
  | some o =>
    rw [ho] at key
    rcases o with ⟨q, e, H'⟩ | ⟨w, e, H'⟩
    · obtain ⟨rfl, g1⟩ := key
      have hr : a21.results = [.tmp 2] := rfl
      have hp : a21.pure = true := rfl
      simp only [finS, hr, resOf, resS, g1, hp, AV.under, if_true]
    · exact key.elim
end Ey.Da
