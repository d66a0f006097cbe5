/- The document's May: by hand. -/
import Derived.Test.YtodehankgheooaaDaDy
set_option maxRecDepth 100000
namespace Ey.Da
open Go (IntKind)
variable {Φ : Nat → Option AFn}

def codeZ : ACode := a29.code
def cZ1 : ACode := codeZ.L
def cZ2 : ACode := codeZ.R.L
def cZ3 : ACode := codeZ.R.R.L
def cZ4 : ACode := codeZ.R.R.R.L.L
def loopZ1 : ACode := codeZ.R.R.R.L.R.K
def roundZ1 : ACode := loopZ1.P
def cZ5 : ACode := codeZ.R.R.R.R.L.L
def loopZ2 : ACode := codeZ.R.R.R.R.L.R.K
def roundZ2 : ACode := loopZ2.P
def cZ6 : ACode := codeZ.R.R.R.R.R
def bodyZ : ACode := roundZ2.R.L.K
def loopZ3 : ACode := bodyZ.R.R.K
def roundZ3 : ACode := loopZ3.P
def kZ1 : List Nat := [1, 3, 4, 48, 49, 50, 51, 52, 53, 70, 71, 72, 73, 74, 75, 76, 77, 78, 79, 80, 81]
def kZ2 : List Nat := [1, 3, 5, 48, 49, 50, 51, 52, 53, 70, 71, 72, 73, 74, 75, 76, 77, 78, 79, 80, 81]
def kZ3 : List Nat := [1, 3, 5, 6, 48, 49, 50, 51, 52, 53, 70, 71, 72, 73, 74, 75, 76, 77, 78, 79, 80, 81]

/-- at a round's head: so far a row's entries may be -/
structure ZI3 (D : List AV) (n : Int) (s : Nat) (rows : List (List Int)) (r : List Int) (c : Nat) (e : Env) : Prop where
  e1 : e.get 1 = .v (.imm (.agg D))
  e3 : e.get 3 = .v (.int .i64 n)
  e5 : e.get 5 = .v (.int .i64 s)
  e6 : e.get 6 = .v (.int .i64 c)
  le : c ≤ r.length
  ok : ∀ x ∈ r.take c, -1 ≤ x ∧ x < rows.length

theorem lsc (n : Bool) (xs : List AV) : (AV.list n xs).cells = [.list n xs] := rfl
theorem roundZ3_ok {D : List AV} {cls : List Int} {rs : List AV} {rows : List (List Int)} {ends : List Int} {fn fe : Option Bool} (hD : DV D cls rs rows ends fn fe) {s : Nat} {r : List Int} (hs : rows[s]? = some r) (hn : (r.length : Int) = nCls cls) {c : Nat} {e : Env} {H : Heap} (h : ZI3 D (nCls cls) s rows r c e) :
    Pst (evX Φ roundZ3 e H) (fun q e' _ => match q with
      | .nrm => c < r.length ∧ ZI3 D (nCls cls) s rows r (c + 1) (keepS kZ3 e')
      | .exit j => j = 4 ∧ e'.get 1 = e.get 1 ∧ e'.get 3 = e.get 3 ∧ e'.get 5 = e.get 5 ∧ ∀ x ∈ r, -1 ≤ x ∧ x < rows.length
      | .ret => e'.get 2 = .v (.bool false) ∧ ∃ x ∈ r, ¬ (-1 ≤ x ∧ x < rows.length)) fun _ _ _ => False := by
  have hrl := hD.hrows.length
  have hlr := lenAV_lv hD.hfn
  rw [hrl] at hlr
  have e1 := h.e1; have e3 := h.e3; have e5 := h.e5; have e6 := h.e6
  have g256 := hD.g256
  have hnb := ncls_bd hD.cb
  by_cases hi : c < r.length
  · have hll : (c : Int) < nCls cls := by omega
    have w2 : IntKind.wrap .i64 ((c : Int) + 1) = ((c + 1 : Nat) : Int) := by have := wrap_small (n := c + 1) (by omega); push_cast at this ⊢; exact this
    have hsl : s < rows.length := (List.getElem?_eq_some_iff.1 hs).1
    have hx := List.getElem?_eq_getElem (show s < rs.length by omega)
    obtain ⟨f, hxe, hf⟩ := hD.hrows.get hx hs
    have hy := ints_get .i64 hi
    have t1 : r.take (c + 1) = r.take c ++ [r[c]] := List.take_succ_eq_append_getElem hi
    have hm := List.getElem_mem hi
    rw [hxe, ixf hf hy] at hx
    have hfn2 := ixf hD.hfn hx
    rw [hfn2] at g256 hlr
    generalize r[c] = y at hy t1 hm
    have hPc : (AV.list false (ints .i64 r)).cells = [.list false (ints .i64 r)] := rfl
    by_cases h2 : y < -1
    · simp [roundZ3, loopZ3, bodyZ, roundZ2, loopZ2, codeZ, a29, ACode.R, ACode.L, ACode.K, ACode.P, evX_seq, evX_ops, evX_dops, evX_cond, evX_skip, evX_ret, evX_block, opsS, wantedS, opS, opv, Env.av, Env.sl, Env.get, setDst, e1, e3, e5, e6, binAV, cmpI, hll, addrS, g256, hx, AV.cells, ldS, part, hy, h2, Pst]
      exact ⟨y, hm, fun hq => by omega⟩
    · by_cases h3 : (rows.length : Int) ≤ y
      · simp [roundZ3, loopZ3, bodyZ, roundZ2, loopZ2, codeZ, a29, ACode.R, ACode.L, ACode.K, ACode.P, evX_seq, evX_ops, evX_dops, evX_cond, evX_skip, evX_ret, evX_block, opsS, wantedS, opS, opv, Env.av, Env.sl, Env.get, setDst, e1, e3, e5, e6, binAV, cmpI, hll, addrS, g256, hx, AV.cells, ldS, part, hy, h2, hlr, i64, h3, Pst]
        exact ⟨y, hm, fun hq => by omega⟩
      · simp [roundZ3, loopZ3, bodyZ, roundZ2, loopZ2, codeZ, a29, ACode.R, ACode.L, ACode.K, ACode.P, evX_seq, evX_ops, evX_dops, evX_cond, evX_skip, evX_block, opsS, wantedS, opS, opv, Env.av, Env.sl, Env.get, setDst, e1, e3, e5, e6, binAV, cmpI, hll, addrS, g256, hx, AV.cells, ldS, part, hy, h2, hlr, i64, h3, arI, w2, Pst]
        refine ⟨hi, by simp [kZ3, keepS, Env.get, e1], by simp [kZ3, keepS, Env.get, e3], by simp [kZ3, keepS, Env.get, e5], by simp [kZ3, keepS, Env.get], by omega, fun x hx => ?_⟩
        rw [t1] at hx
        rcases List.mem_append.1 hx with hx | hx
        · exact h.ok x hx
        · rw [List.mem_singleton] at hx
          subst hx
          omega
  · have hil : c = r.length := by have := h.le; omega
    subst hil
    have hok := h.ok
    rw [List.take_length] at hok
    have hll : ¬ ((r.length : Int) < nCls cls) := by omega
    simp [roundZ3, loopZ3, bodyZ, roundZ2, loopZ2, codeZ, a29, ACode.R, ACode.L, ACode.K, ACode.P, evX_seq, evX_ops, evX_cond, evX_exit, opsS, wantedS, opS, opv, Env.av, Env.sl, Env.get, setDst, e1, e3, e5, e6, binAV, cmpI, hll, Pst]
    exact hok
/-- the part of a round behind the first tests -/
def bZ1 : ACode := bodyZ.L
def bZ2 : ACode := bodyZ.R.L
def incZ : ACode := roundZ2.R.R
def hdZ : ACode := roundZ2.L
def tlZ : ACode := .seq bZ2 (.block 4 loopZ3)
def rZ : ACode := .seq (.block 3 (.seq bZ1 tlZ)) incZ
theorem z2_code : roundZ2 = .seq hdZ rZ := rfl

def SOk (cls : List Int) (rows : List (List Int)) (ends : List Int) (j : Nat) : Prop := (∀ r, rows[j]? = some r → RowOk cls rows r) ∧ ∀ x, ends[j]? = some x → -1 ≤ x

structure ZI2 (D : List AV) (cls : List Int) (rows : List (List Int)) (ends : List Int) (i : Nat) (e : Env) : Prop where
  e1 : e.get 1 = .v (.imm (.agg D))
  e3 : e.get 3 = .v (.int .i64 (nCls cls))
  e5 : e.get 5 = .v (.int .i64 i)
  le : i ≤ rows.length
  ok : ∀ j, j < i → SOk cls rows ends j

theorem roundZ2_ok {D : List AV} {cls : List Int} {rs : List AV} {rows : List (List Int)} {ends : List Int} {fn fe : Option Bool} (hD : DV D cls rs rows ends fn fe) (hel : ends.length = rows.length) {i : Nat} {e : Env} {H : Heap} (h : ZI2 D cls rows ends i e) :
    Pst (evX Φ roundZ2 e H) (fun q e' _ => match q with
      | .nrm => i < rows.length ∧ ZI2 D cls rows ends (i + 1) (keepS kZ2 e')
      | .exit j => j = 2 ∧ ∀ j, j < rows.length → SOk cls rows ends j
      | .ret => e'.get 2 = .v (.bool false) ∧ ∃ j, j < rows.length ∧ ¬ SOk cls rows ends j) fun _ _ _ => False := by
  have hrl := hD.hrows.length
  have hlr := lenAV_lv hD.hfn
  rw [hrl] at hlr
  have e1 := h.e1; have e3 := h.e3; have e5 := h.e5
  have g256 := hD.g256; have g257 := hD.g257
  have hrb := hD.rl
  rw [z2_code]
  apply pst_seq
  by_cases hi : i < rows.length
  · have hll : (i : Int) < (rows.length : Int) := by omega
    have w2 : IntKind.wrap .i64 ((i : Int) + 1) = ((i + 1 : Nat) : Int) := by have := wrap_small (n := i + 1) (by omega); push_cast at this ⊢; exact this
    have hx := List.getElem?_eq_getElem (show i < rs.length by omega)
    have hr := List.getElem?_eq_getElem hi
    obtain ⟨f, hxe, hf⟩ := hD.hrows.get hx hr
    have hn := List.getElem?_eq_getElem (show i < ends.length by omega)
    have hy := ints_get .i64 (show i < ends.length by omega)
    rw [hxe] at hx
    have hfn2 := ixf hD.hfn hx
    have hfe2 := ixf hD.hfe hy
    rw [hfn2] at g256 hlr
    rw [hfe2] at g257
    generalize rows[i] = r at hr hx hf
    generalize ends[i] = y at hn hy
    have lr := lenAV_lv hf
    rw [ints_len] at lr
    simp [hdZ, roundZ2, loopZ2, codeZ, a29, ACode.R, ACode.L, ACode.K, ACode.P, evX_seq, evX_ops, evX_cond, evX_skip, opsS, wantedS, opS, opv, Env.av, Env.sl, Env.get, setDst, e1, e5, addrS, agc, part, g256, lsc, hlr, i64, binAV, cmpI, hll, pst_go, Nx]
    unfold rZ
    apply pst_seq
    apply pst_block
    apply pst_seq
    have hPc : (lv f (ints .i64 r)).cells = [lv f (ints .i64 r)] := lvc f _
    obtain ⟨P, hP⟩ : ∃ P, P = lv f (ints .i64 r) := ⟨_, rfl⟩
    rw [← hP] at hx hPc lr
    by_cases h1 : (r.length : Int) = nCls cls
    · have h1b : ((r.length : Int) != nCls cls) = false := by simpa using h1
      by_cases h2 : y < -1
      · simp [bZ1, bodyZ, roundZ2, loopZ2, codeZ, a29, ACode.R, ACode.L, ACode.K, ACode.P, evX_seq, evX_ops, evX_cond, evX_ret, opsS, wantedS, opS, opv, Env.av, Env.sl, Env.get, setDst, e1, e3, e5, addrS, agc, part, g256, g257, icells, hx, hy, hPc, ldS, lr, i64, binAV, cmpI, h1b, h2, lsc, pst_go, Nx]
        exact ⟨i, hi, fun hq => by have := hq.2 y hn; omega⟩
      · simp [bZ1, bodyZ, roundZ2, loopZ2, codeZ, a29, ACode.R, ACode.L, ACode.K, ACode.P, evX_seq, evX_ops, evX_cond, evX_skip, opsS, wantedS, opS, opv, Env.av, Env.sl, Env.get, setDst, e1, e3, e5, addrS, agc, part, g256, g257, icells, hx, hy, hPc, ldS, lr, i64, binAV, cmpI, h1b, h2, lsc, pst_go, Nx]
        unfold tlZ
        apply pst_seq
        simp [bZ2, bodyZ, roundZ2, loopZ2, codeZ, a29, ACode.R, ACode.L, ACode.K, ACode.P, evX_ops, opsS, wantedS, opS, opv, Env.sl, setDst, pst_go, Nx]
        apply pst_block
        refine (pst_loop (k := kZ3) (a := roundZ3) (Q := fun q e' H' => match q with
          | .nrm => False
          | .exit j => j = 4 ∧ e'.get 1 = .v (.imm (.agg D)) ∧ e'.get 3 = .v (.int .i64 (nCls cls)) ∧ e'.get 5 = .v (.int .i64 i) ∧ ∀ x ∈ r, -1 ≤ x ∧ x < rows.length
          | .ret => e'.get 2 = .v (.bool false) ∧ ∃ x ∈ r, ¬ (-1 ≤ x ∧ x < rows.length)) (R := fun _ _ _ => False) (fun n e H => ∃ c, n = r.length - c ∧ ZI3 D (nCls cls) i rows r c e) (fun n e H hi' => ?_) _ _ _ ⟨0, rfl, ?_⟩).mono (fun q e' H' hq => ?_) (fun _ _ _ h => h)
        · obtain ⟨c, rfl, hi'⟩ := hi'
          refine (roundZ3_ok hD hr h1 hi').mono (fun q e' H' hq => ?_) (fun _ _ _ h => h)
          cases q with
          | nrm => exact ⟨_, by have := hq.1; omega, c + 1, rfl, hq.2⟩
          | exit j => exact ⟨hq.1, hq.2.1.trans hi'.e1, hq.2.2.1.trans hi'.e3, hq.2.2.2.1.trans hi'.e5, hq.2.2.2.2⟩
          | ret => exact hq
        · exact ⟨by simp [kZ3, keepS, Env.get, e1], by simp [kZ3, keepS, Env.get, e3], by simp [kZ3, keepS, Env.get, e5], by simp [kZ3, keepS, Env.get], by omega, fun x hx => by simp at hx⟩
        · cases q with
          | nrm => exact hq.elim
          | exit j =>
            obtain ⟨rfl, q1, q3, q5, hall⟩ := hq
            simp only [if_true]
            simp [incZ, roundZ2, loopZ2, codeZ, a29, ACode.R, ACode.L, ACode.K, ACode.P, evX_ops, opsS, wantedS, opS, opv, Env.av, Env.sl, Env.get, setDst, q5, binAV, arI, w2, Pst]
            refine ⟨hi, by simp [kZ2, keepS, Env.get, q1], by simp [kZ2, keepS, Env.get, q3], by simp [kZ2, keepS, Env.get], by omega, fun j hj => ?_⟩
            by_cases hji : j = i
            · subst hji
              exact ⟨fun r' hr' => by rw [hr] at hr'; cases hr'; exact ⟨h1, hall⟩, fun x hx => by rw [hn] at hx; cases hx; omega⟩
            · exact h.ok j (by omega)
          | ret =>
            obtain ⟨q2, x, hx, hbad⟩ := hq
            exact ⟨q2, i, hi, fun hq => hbad ((hq.1 r hr).2 x hx)⟩
    · have h1b : ((r.length : Int) != nCls cls) = true := by simpa using h1
      simp [bZ1, bodyZ, roundZ2, loopZ2, codeZ, a29, ACode.R, ACode.L, ACode.K, ACode.P, evX_seq, evX_ops, evX_cond, evX_ret, opsS, wantedS, opS, opv, Env.av, Env.sl, Env.get, setDst, e1, e3, e5, addrS, agc, part, g256, hx, hPc, ldS, lr, i64, binAV, cmpI, h1b, lsc, pst_go, Nx]
      exact ⟨i, hi, fun hq => h1 (hq.1 r hr).1⟩
  · have hil : i = rows.length := by have := h.le; omega
    subst hil
    have hok := h.ok
    have hPc : (lv fn rs).cells = [lv fn rs] := lvc fn _
    simp [hdZ, roundZ2, loopZ2, codeZ, a29, ACode.R, ACode.L, ACode.K, ACode.P, evX_seq, evX_ops, evX_cond, evX_exit, opsS, wantedS, opS, opv, Env.av, Env.sl, Env.get, setDst, e1, e5, addrS, agc, part, g256, hPc, hlr, i64, binAV, cmpI, pst_go, Nx]
    exact hok
def fN (l : List Int) : Int := l.foldl (fun n x => max n (x + 1)) 0
theorem fN_add : ∀ (l : List Int) (a : Int), l.foldl (fun n x => max n (x + 1)) (a + 1) = mxI a l + 1
  | [], a => rfl
  | x :: l, a => by
    have := fN_add l (max a x)
    simp only [List.foldl_cons, mxI] at this ⊢
    rw [show max (a + 1) (x + 1) = max a x + 1 by omega]
    exact this
theorem fN_ncls {cls : List Int} (h : ∀ x ∈ cls, 0 ≤ x ∧ x < 256) (hl : cls.length = 256) : fN cls = nCls cls := by
  match cls, h, hl with
  | c0 :: l, h, _ =>
    have h0 := h c0 (by simp)
    unfold fN nCls mxI
    simp only [List.foldl_cons]
    rw [show max 0 (c0 + 1) = c0 + 1 by omega, show max 0 c0 = c0 by omega]
    exact fN_add l c0
theorem fN_step {l : List Int} {i : Nat} (h : i < l.length) : fN (l.take (i + 1)) = max (fN (l.take i)) (l[i] + 1) := by
  unfold fN
  rw [List.take_succ_eq_append_getElem h, List.foldl_append]; rfl
theorem fN_bd {l : List Int} (h : ∀ x ∈ l, 0 ≤ x ∧ x < 256) : 0 ≤ fN l ∧ fN l ≤ 256 := by
  have key : ∀ (l : List Int) (a : Int), (∀ x ∈ l, 0 ≤ x ∧ x < 256) → 0 ≤ a → a ≤ 256 → 0 ≤ l.foldl (fun n x => max n (x + 1)) a ∧ l.foldl (fun n x => max n (x + 1)) a ≤ 256 := by
    intro l
    induction l with
    | nil => intro a _ h1 h2; exact ⟨h1, h2⟩
    | cons x l ih =>
      intro a h h1 h2
      have := h x (by simp)
      exact ih (max a (x + 1)) (fun y hy => h y (by simp [hy])) (by omega) (by omega)
  exact key l 0 h (by omega) (by omega)

structure ZI1 (D : List AV) (cls : List Int) (i : Nat) (e : Env) : Prop where
  e1 : e.get 1 = .v (.imm (.agg D))
  e3 : e.get 3 = .v (.int .i64 (fN (cls.take i)))
  e4 : e.get 4 = .v (.int .i64 i)
  le : i ≤ 256

theorem roundZ1_ok {D : List AV} {cls : List Int} {rs : List AV} {rows : List (List Int)} {ends : List Int} {fn fe : Option Bool} (hD : DV D cls rs rows ends fn fe) {i : Nat} {e : Env} {H : Heap} (h : ZI1 D cls i e) :
    Pst (evX Φ roundZ1 e H) (fun q e' _ => match q with
      | .nrm => i < 256 ∧ ZI1 D cls (i + 1) (keepS kZ1 e')
      | .exit j => j = 0 ∧ e'.get 1 = .v (.imm (.agg D)) ∧ e'.get 3 = .v (.int .i64 (nCls cls))
      | .ret => False) fun _ _ _ => False := by
  have e1 := h.e1; have e3 := h.e3; have e4 := h.e4
  have dl := hD.len; have tk := hD.tk; have hcl := hD.cl
  by_cases hi : i < 256
  · have hil : i < cls.length := by omega
    have w2 : IntKind.wrap .i64 ((i : Int) + 1) = ((i + 1 : Nat) : Int) := by have := wrap_small (n := i + 1) (by omega); push_cast at this ⊢; exact this
    have hy := ints_get .u8 hil
    have hb := hD.cb _ (List.getElem_mem hil)
    have st := fN_step hil
    generalize cls[i] = y at hy hb st
    have w3 : IntKind.wrap .i64 y = y := by
      have := wrap_small (n := y.toNat) (by omega)
      rw [show ((y.toNat : Nat) : Int) = y by omega] at this
      exact this
    have w4 : IntKind.wrap .i64 (y + 1) = y + 1 := by
      have := wrap_small (n := (y + 1).toNat) (by omega)
      rw [show (((y + 1).toNat : Nat) : Int) = y + 1 by omega] at this
      exact this
    have hlz : (i : Int) < 256 := by omega
    have hlen : (ints .u8 cls).length = 256 := by rw [ints_len]; exact hcl
    generalize hF : fN (cls.take i) = F at e3 st
    simp [roundZ1, loopZ1, codeZ, a29, ACode.R, ACode.L, ACode.K, ACode.P, evX_seq, evX_ops, evX_cond, evX_skip, evX_block, opsS, wantedS, opS, opv, Env.av, Env.sl, Env.get, setDst, e1, e3, e4, binAV, cmpI, hlz, addrS, part, agc, dl, tk, hy, icells, w3, arI, w4, w2, Pst]
    exact ⟨hi, by simp [kZ1, keepS, Env.get, e1], by simp [kZ1, keepS, Env.get, st], by simp [kZ1, keepS, Env.get], by omega⟩
  · have hil : i = 256 := by have := h.le; omega
    subst hil
    rw [List.take_of_length_le (by omega), fN_ncls hD.cb hcl] at e3
    simp [roundZ1, loopZ1, codeZ, a29, ACode.R, ACode.L, ACode.K, ACode.P, evX_seq, evX_ops, evX_cond, evX_exit, opsS, wantedS, opS, opv, Env.av, Env.sl, Env.get, setDst, e1, e3, e4, binAV, cmpI, Pst]

def cZQ : ACode := .seq cZ3 codeZ.R.R.R
def cZQ2 : ACode := codeZ.R.R.R.R
theorem z_code : codeZ = .seq cZ1 (.seq cZ2 cZQ) := rfl
theorem zq_code : cZQ = .seq cZ3 (.seq (.seq cZ4 (.block 0 loopZ1)) cZQ2) := rfl
theorem zq2_code : cZQ2 = .seq (.seq cZ5 (.block 2 loopZ2)) cZ6 := rfl

open Classical in
theorem rmay_ok (h : Φ 29 = some a29) {D : List AV} {cls : List Int} {rs : List AV} {rows : List (List Int)} {ends : List Int} {fn fe : Option Bool} (hD : DV D cls rs rows ends fn fe) {H : Heap} :
    evC Φ 29 [.agg D] H = some (.ret (.bool (decide (May cls rows ends))) H) := by
  have g256 := hD.g256; have g257 := hD.g257; have dl := hD.len
  have hlr := lenAV_lv hD.hfn
  rw [hD.hrows.length] at hlr
  have hle := lenAV_lv hD.hfe
  rw [ints_len] at hle
  have key : Pst (evX Φ codeZ (initEnv 0 [.agg D]) (bodyH a29 H)) (fun x e' _ => x = .ret ∧ e'.get 2 = .v (.bool (decide (May cls rows ends)))) fun _ _ _ => False := by
    generalize bodyH a29 H = K
    rw [z_code]
    apply pst_seq
    simp [cZ1, codeZ, a29, ACode.L, evX_ops, opsS, wantedS, opS, opv, Env.av, Env.sl, Env.get, setDst, initEnv, agc, dl, pst_go, Nx]
    apply pst_seq
    have hP1 : (lv fn rs).cells = [lv fn rs] := lvc fn _
    have hP2 : (lv fe (ints .i64 ends)).cells = [lv fe (ints .i64 ends)] := lvc fe _
    by_cases h1 : rows.length = 0
    · have hno : ¬ May cls rows ends := fun hm => hm.ne (List.length_eq_zero_iff.1 h1)
      have h1b : ((rows.length : Int) == 0) = true := by rw [h1]; rfl
      simp [cZ2, codeZ, a29, ACode.L, ACode.R, evX_seq, evX_ops, evX_cond, evX_ret, opsS, wantedS, opS, opv, Env.av, Env.sl, Env.get, setDst, addrS, part, agc, hP1, g256, hlr, i64, binAV, cmpI, h1b, pst_go, Nx, hno]
    · have h1b : ((rows.length : Int) == 0) = false := by rw [beq_eq_false_iff_ne]; omega
      by_cases h2 : ends.length = rows.length
      · have h2b : ((ends.length : Int) != rows.length) = false := by rw [bne_eq_false_iff_eq]; omega
        simp [cZ2, codeZ, a29, ACode.L, ACode.R, evX_seq, evX_ops, evX_cond, evX_skip, opsS, wantedS, opS, opv, Env.av, Env.sl, Env.get, setDst, addrS, part, agc, hP1, hP2, g256, g257, hlr, hle, i64, binAV, cmpI, h1b, h2b, pst_go, Nx]
        rw [zq_code]
        apply pst_seq
        simp [cZ3, codeZ, a29, ACode.L, ACode.R, evX_ops, opsS, wantedS, opS, opv, Env.sl, setDst, pst_go, Nx]
        apply pst_seq
        apply pst_seq
        simp [cZ4, codeZ, a29, ACode.L, ACode.R, evX_ops, opsS, wantedS, opS, opv, Env.sl, setDst, pst_go, Nx]
        apply pst_block
        refine (pst_loop (k := kZ1) (a := roundZ1) (Q := fun q e' H' => match q with
          | .nrm => False
          | .exit j => j = 0 ∧ e'.get 1 = .v (.imm (.agg D)) ∧ e'.get 3 = .v (.int .i64 (nCls cls))
          | .ret => False) (R := fun _ _ _ => False) (fun n e H => ∃ i, n = 256 - i ∧ ZI1 D cls i e) (fun n e H hi' => ?_) _ _ _ ⟨0, rfl, ?_⟩).mono (fun q e' H' hq => ?_) (fun _ _ _ h => h)
        · obtain ⟨i, rfl, hi'⟩ := hi'
          refine (roundZ1_ok hD hi').mono (fun q e' H' hq => ?_) (fun _ _ _ h => h)
          cases q with
          | nrm => exact ⟨_, by have := hq.1; omega, i + 1, rfl, hq.2⟩
          | exit j => exact hq
          | ret => exact hq
        · exact ⟨by simp [kZ1, keepS, Env.get], by simp [kZ1, keepS, Env.get, fN], by simp [kZ1, keepS, Env.get], by omega⟩
        · cases q with
          | nrm => exact hq.elim
          | ret => exact hq.elim
          | exit j =>
            obtain ⟨rfl, q1, q3⟩ := hq
            simp only [if_true, Nx]
            rw [zq2_code]
            apply pst_seq
            apply pst_seq
            simp [cZ5, codeZ, a29, ACode.L, ACode.R, evX_ops, opsS, wantedS, opS, opv, Env.sl, setDst, pst_go, Nx]
            apply pst_block
            have hmay : May cls rows ends ↔ ∀ j, j < rows.length → SOk cls rows ends j := by
              rw [may_iff]
              constructor
              · rintro ⟨_, _, m3, m4⟩ j hj
                exact ⟨fun r hr => m4 r (List.mem_of_getElem? hr), fun x hx => m3 x (List.mem_of_getElem? hx)⟩
              · intro hall
                refine ⟨fun hq => h1 (by rw [hq]; rfl), h2, fun x hx => ?_, fun r hr => ?_⟩
                · obtain ⟨j, hj⟩ := List.getElem?_of_mem hx
                  have := (List.getElem?_eq_some_iff.1 hj).1
                  exact (hall j (by omega)).2 x hj
                · obtain ⟨j, hj⟩ := List.getElem?_of_mem hr
                  exact (hall j (List.getElem?_eq_some_iff.1 hj).1).1 r hj
            rw [show decide (May cls rows ends) = decide (∀ j, j < rows.length → SOk cls rows ends j) from decide_eq_decide.2 hmay]
            refine (pst_loop (k := kZ2) (a := roundZ2) (Q := fun q e' H' => match q with
              | .nrm => False
              | .exit j => j = 2 ∧ ∀ j, j < rows.length → SOk cls rows ends j
              | .ret => e'.get 2 = .v (.bool false) ∧ ∃ j, j < rows.length ∧ ¬ SOk cls rows ends j) (R := fun _ _ _ => False) (fun n e H => ∃ i, n = rows.length - i ∧ ZI2 D cls rows ends i e) (fun n e H hi' => ?_) _ _ _ ⟨0, rfl, ?_⟩).mono (fun q e' H' hq => ?_) (fun _ _ _ h => h)
            · obtain ⟨i, rfl, hi'⟩ := hi'
              refine (roundZ2_ok hD h2 hi').mono (fun q e' H' hq => ?_) (fun _ _ _ h => h)
              cases q with
              | nrm => exact ⟨_, by have := hq.1; omega, i + 1, rfl, hq.2⟩
              | exit j => exact hq
              | ret => exact hq
            · exact ⟨by simp [kZ2, keepS, Env.get, q1], by simp [kZ2, keepS, Env.get, q3], by simp [kZ2, keepS, Env.get], by omega, fun j hj => by omega⟩
            · cases q with
              | nrm => exact hq.elim
              | exit j =>
                obtain ⟨rfl, hall⟩ := hq
                simp [cZ6, codeZ, a29, ACode.R, evX_seq, evX_ops, evX_ret, opsS, wantedS, opS, opv, Env.sl, Env.get, setDst, Pst, Nx]
                exact hall
              | ret =>
                obtain ⟨q1, j, hj, hbad⟩ := hq
                refine ⟨rfl, ?_⟩
                rw [q1]
                have : ¬ ∀ j, j < rows.length → SOk cls rows ends j := fun hq => hbad (hq j hj)
                simp only [this, decide_false]
      · have h2b : ((ends.length : Int) != rows.length) = true := by rw [bne_iff_ne]; omega
        have hno : ¬ May cls rows ends := fun hm => h2 hm.len
        simp [cZ2, codeZ, a29, ACode.L, ACode.R, evX_seq, evX_ops, evX_cond, evX_ret, opsS, wantedS, opS, opv, Env.av, Env.sl, Env.get, setDst, addrS, part, agc, hP1, hP2, g256, g257, hlr, hle, i64, binAV, cmpI, h1b, h2b, pst_go, Nx, hno]
  rw [evC_eq h rfl]
  unfold codeZ at key
  cases ho : evX Φ a29.code (initEnv 0 [.agg D]) (bodyH a29 H) with
  | none => rw [ho] at key; exact key.elim
  | some o =>
    rw [ho] at key
    rcases o with ⟨q, e, H'⟩ | ⟨w, e, H'⟩
    · obtain ⟨rfl, g1⟩ := key
      have hr : a29.results = [.tmp 2] := rfl
      have hp : a29.pure = true := rfl
      simp only [finS, hr, resOf, resS, g1, hp, AV.under, if_true]
    · exact key.elim
end Ey.Da
