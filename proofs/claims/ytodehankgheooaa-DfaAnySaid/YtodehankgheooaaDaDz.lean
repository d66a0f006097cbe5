/- The document's Longest; the law: by hand. -/
import Derived.Test.YtodehankgheooaaDaDw
import Derived.Test.YtodehankgheooaaEyB3
import Derived.OpenShut
set_option maxRecDepth 100000
namespace Ey.Da
open Go (IntKind)
variable {Φ : Nat → Option AFn}

def codeQ : ACode := a28.code
def cQ1 : ACode := codeQ.L
def cQ2 : ACode := codeQ.R.L
def cQ3 : ACode := codeQ.R.R.L.L
def loopQ : ACode := codeQ.R.R.L.R.K
def roundQ : ACode := loopQ.P
def cQ5 : ACode := codeQ.R.R.R
def cQQ : ACode := codeQ.R.R
theorem q_code : codeQ = .seq cQ1 (.seq cQ2 cQQ) := rfl
theorem qq_code : cQQ = .seq (.seq cQ3 (.block 0 loopQ)) cQ5 := rfl

structure QI (D : List AV) (cls : List Int) (rows : List (List Int)) (ends : List Int) (fw : Option Bool) (w : List UInt8) (n : Nat) (e : Env) : Prop where
  e1 : e.get 1 = .v (lv fw (w.map byt))
  e2 : e.get 2 = .v (.imm (.agg D))
  e6 : e.get 6 = .v (.int .i64 n)
  le : n ≤ w.length
  st : lg cls rows ends w w.length = lg cls rows ends w n

theorem roundQ_ok (hmy : Φ 29 = some a29) (hrn : Φ 30 = some a30) {D : List AV} {cls : List Int} {rs : List AV} {rows : List (List Int)} {ends : List Int} {fn fe fw : Option Bool} (hD : DV D cls rs rows ends fn fe) (hm : May cls rows ends) {w : List UInt8} (hfw : Fo fw (w.map byt)) (hw : w.length ≤ 2 ^ 40) {n : Nat} {e : Env} {H : Heap} (h : QI D cls rows ends fw w n e) :
    Pst (evX Φ roundQ e H) (fun q e' _ => match q with
      | .nrm => 0 < n ∧ QI D cls rows ends fw w (n - 1) (keepS [1, 2, 6] e')
      | .exit j => j = 0 ∧ lg cls rows ends w w.length = (-1, 0)
      | .ret => e'.get 4 = .v (.int .i64 (lg cls rows ends w w.length).1) ∧ e'.get 5 = .v (.int .i64 (lg cls rows ends w w.length).2)) fun _ _ _ => False := by
  have e1 := h.e1; have e2 := h.e2; have e6 := h.e6; have st := h.st; have hle := h.le
  have dl := hD.len; have dA := hD.all
  have hdp : part 258 true D 0 = some (.agg D) := by simp [part, dl, dA]
  cases n with
  | zero =>
    have st' : lg cls rows ends w w.length = (-1, 0) := st
    simp [roundQ, loopQ, codeQ, a28, ACode.R, ACode.L, ACode.K, ACode.P, evX_seq, evX_ops, evX_cond, evX_exit, opsS, wantedS, opS, opv, Env.av, Env.sl, Env.get, setDst, e6, binAV, cmpI, Pst]
    exact st'
  | succ n =>
    have hn0 : (0 : Int) < ((n + 1 : Nat) : Int) := by omega
    have hsl := sl_hi (H := H) hfw (byt_cells w) (show n + 1 ≤ (w.map byt).length by simp; omega)
    have er := rrun_ok hmy hrn hD (fw := fw) (w := w.take (n + 1)) (H := H) (by rw [List.map_take]; exact hfw.take _) (by simp; omega)
    rw [List.map_take] at er
    have hrv : runV cls rows ends (w.take (n + 1)) = runL cls rows ends (w.take (n + 1)) := by unfold runV; rw [if_pos hm]
    rw [hrv] at er
    have st' : lg cls rows ends w w.length = if 0 ≤ runL cls rows ends (w.take (n + 1)) then (runL cls rows ends (w.take (n + 1)), ((n + 1 : Nat) : Int)) else lg cls rows ends w n := st
    obtain ⟨W, hW⟩ : ∃ W, W = lv fw ((w.map byt).take (n + 1)) := ⟨_, rfl⟩
    rw [← hW] at hsl er
    have w2 : IntKind.wrap .i64 (((n + 1 : Nat) : Int) - 1) = (n : Int) := by have := wrap_small (n := n) (by omega); rw [show ((n + 1 : Nat) : Int) - 1 = n by omega]; exact this
    generalize runL cls rows ends (w.take (n + 1)) = t at er st'
    obtain ⟨N, hN⟩ : ∃ N : Int, N = ((n + 1 : Nat) : Int) := ⟨_, rfl⟩
    rw [← hN] at e6 hn0 hsl w2 st'
    by_cases ht : 0 ≤ t
    · rw [if_pos ht] at st'
      simp [roundQ, loopQ, codeQ, a28, ACode.R, ACode.L, ACode.K, ACode.P, evX_seq, evX_ops, evX_dops, evX_cond, evX_skip, evX_ret, evX_block, opsS, wantedS, opS, opv, Env.av, Env.sl, Env.get, setDst, e1, e2, e6, binAV, cmpI, hn0, agc, dl, hdp, optAV, hsl, allAV, er, ht, st', Pst]
    · rw [if_neg ht] at st'
      simp [roundQ, loopQ, codeQ, a28, ACode.R, ACode.L, ACode.K, ACode.P, evX_seq, evX_ops, evX_dops, evX_cond, evX_skip, evX_block, opsS, wantedS, opS, opv, Env.av, Env.sl, Env.get, setDst, e1, e2, e6, binAV, cmpI, hn0, agc, dl, hdp, optAV, hsl, allAV, er, ht, arI, w2, Pst]
      exact ⟨by simp [keepS, Env.get, e1], by simp [keepS, Env.get, e2], by simp [keepS, Env.get], by omega, st'⟩

open Classical in
theorem rlong_ok (hmy : Φ 29 = some a29) (hrn : Φ 30 = some a30) (h : Φ 28 = some a28) {D : List AV} {cls : List Int} {rs : List AV} {rows : List (List Int)} {ends : List Int} {fn fe fw : Option Bool} (hD : DV D cls rs rows ends fn fe) {w : List UInt8} (hfw : Fo fw (w.map byt)) (hw : w.length ≤ 2 ^ 40) {H : Heap} :
    evC Φ 28 [.agg D, lv fw (w.map byt)] H = some (.ret (.tup [.int .i64 (longV cls rows ends w).1, .int .i64 (longV cls rows ends w).2]) H) := by
  have em := fun K => rmay_ok hmy hD (H := K)
  have lw := lenAV_lv hfw
  rw [show (w.map byt).length = w.length by simp] at lw
  have dl := hD.len; have dA := hD.all
  have hdp : part 258 true D 0 = some (.agg D) := by simp [part, dl, dA]
  have key : Pst (evX Φ codeQ (initEnv 0 [.agg D, lv fw (w.map byt)]) (bodyH a28 H)) (fun x e' _ => x = .ret ∧ e'.get 4 = .v (.int .i64 (longV cls rows ends w).1) ∧ e'.get 5 = .v (.int .i64 (longV cls rows ends w).2)) fun _ _ _ => False := by
    generalize bodyH a28 H = K
    rw [q_code]
    apply pst_seq
    simp [cQ1, codeQ, a28, ACode.L, evX_ops, opsS, wantedS, opS, opv, Env.av, Env.sl, Env.get, setDst, initEnv, agc, dl, pst_go, Nx]
    apply pst_seq
    by_cases hm : May cls rows ends
    · have em1 := em K
      rw [show decide (May cls rows ends) = true from decide_eq_true hm] at em1
      have hv : longV cls rows ends w = lg cls rows ends w w.length := by unfold longV; rw [if_pos hm]
      rw [hv]
      simp [cQ2, codeQ, a28, ACode.L, ACode.R, evX_seq, evX_ops, evX_cond, evX_skip, opsS, wantedS, opS, opv, Env.av, Env.sl, Env.get, setDst, agc, dl, hdp, allAV, em1, unAV, pst_go, Nx]
      rw [qq_code]
      apply pst_seq
      apply pst_seq
      simp [cQ3, codeQ, a28, ACode.L, ACode.R, evX_ops, opsS, wantedS, opS, opv, Env.av, Env.sl, Env.get, setDst, lw, i64, pst_go, Nx]
      apply pst_block
      refine (pst_loop (k := [1, 2, 6]) (a := roundQ) (Q := fun q e' _ => match q with
        | .nrm => False
        | .exit j => j = 0 ∧ lg cls rows ends w w.length = (-1, 0)
        | .ret => e'.get 4 = .v (.int .i64 (lg cls rows ends w w.length).1) ∧ e'.get 5 = .v (.int .i64 (lg cls rows ends w w.length).2)) (R := fun _ _ _ => False) (fun n e H => QI D cls rows ends fw w n e) (fun n e H hi' => ?_) w.length _ _ ?_).mono (fun q e' H' hq => ?_) (fun _ _ _ h => h)
      · refine (roundQ_ok hmy hrn hD hm hfw hw hi').mono (fun q e' H' hq => ?_) (fun _ _ _ h => h)
        cases q with
        | nrm => exact ⟨_, by have := hq.1; omega, hq.2⟩
        | exit j => exact hq
        | ret => exact hq
      · exact ⟨by simp [keepS, Env.get], by simp [keepS, Env.get], by simp [keepS, Env.get], by omega, rfl⟩
      · cases q with
        | nrm => exact hq.elim
        | ret => exact ⟨rfl, hq⟩
        | exit j =>
          obtain ⟨rfl, hl⟩ := hq
          simp only [if_true, Nx]
          simp [cQ5, codeQ, a28, ACode.R, evX_seq, evX_ops, evX_ret, opsS, wantedS, opS, opv, Env.sl, Env.get, setDst, hl, Pst]
    · have em1 := em K
      rw [show decide (May cls rows ends) = false from decide_eq_false hm] at em1
      have hv : longV cls rows ends w = (-1, 0) := by unfold longV; rw [if_neg hm]
      simp [cQ2, codeQ, a28, ACode.L, ACode.R, evX_seq, evX_ops, evX_cond, evX_ret, opsS, wantedS, opS, opv, Env.av, Env.sl, Env.get, setDst, agc, dl, hdp, allAV, em1, unAV, hv, pst_go, Nx]
  rw [evC_eq h rfl]
  unfold codeQ at key
  cases ho : evX Φ a28.code (initEnv 0 [.agg D, lv fw (w.map byt)]) (bodyH a28 H) with
  | none => rw [ho] at key; exact key.elim
  | some o =>
    rw [ho] at key
    rcases o with ⟨q, e, H'⟩ | ⟨w, e, H'⟩
    · obtain ⟨rfl, g1, g2⟩ := key
      have hr : a28.results = [.tmp 4, .tmp 5] := rfl
      have hp : a28.pure = true := rfl
      simp [finS, hr, resOf, resAll, resS, g1, g2, hp, AV.under, AV.underAll]
    · exact key.elim

/-! ### the arguments -/
theorem bytes_of : ∀ {xs : List AV}, (∀ x ∈ xs, x.one = true ∧ x.cells.length = 1) → (∀ x ∈ xs, ∀ (i : Nat) (s : Sc) (y : AV), ([.int .u8] : List Sc)[i]? = some s → x.cells[i]? = some y → Imp s y) → ∃ l : List UInt8, xs = l.map byt
  | [], _, _ => ⟨[], rfl⟩
  | x :: xs, h1, h2 => by
    obtain ⟨l, hl⟩ := bytes_of (xs := xs) (fun y hy => h1 y (by simp [hy])) (fun y hy => h2 y (by simp [hy]))
    have ho := (h1 x (by simp)).1
    have := h2 x (by simp) 0 (.int .u8) x rfl (by rw [AV.one_cells ho]; rfl)
    cases this with
    | int _ n hw =>
      have hb := Go.bounds_u8 hw
      refine ⟨UInt8.ofNat n.toNat :: l, ?_⟩
      rw [List.map_cons, ← hl]
      congr 1
      unfold byt
      rw [UInt8.toNat_ofNat']
      congr 1
      omega
theorem imp_bytes {x : AV} (h : Imp (.sl false [.int .u8]) x) : ∃ (f : Option Bool) (l : List UInt8), x = lv f (l.map byt) ∧ Fo f (l.map byt) := by
  cases h with
  | nil => exact ⟨some true, [], rfl, fun _ => rfl⟩
  | c0 => exact ⟨none, [], rfl, fun _ => rfl⟩
  | list _ _ xs _ h1 h2 =>
    obtain ⟨l, rfl⟩ := bytes_of (fun x hx => by simpa using h1 x hx) h2
    exact ⟨some false, l, rfl, fo_false _⟩
theorem ints_of {k : IntKind} : ∀ {xs : List AV}, (∀ x ∈ xs, x.one = true ∧ x.cells.length = 1) → (∀ x ∈ xs, ∀ (i : Nat) (s : Sc) (y : AV), ([.int k] : List Sc)[i]? = some s → x.cells[i]? = some y → Imp s y) → ∃ l : List Int, xs = ints k l
  | [], _, _ => ⟨[], rfl⟩
  | x :: xs, h1, h2 => by
    obtain ⟨l, hl⟩ := ints_of (xs := xs) (fun y hy => h1 y (by simp [hy])) (fun y hy => h2 y (by simp [hy]))
    have ho := (h1 x (by simp)).1
    have := h2 x (by simp) 0 (.int k) x rfl (by rw [AV.one_cells ho]; rfl)
    cases this with
    | int _ n hw => exact ⟨n :: l, by rw [hl]; rfl⟩
theorem imp_ints {x : AV} (h : Imp (.sl false [.int .i64]) x) : ∃ (f : Option Bool) (l : List Int), x = lv f (ints .i64 l) ∧ Fo f (ints .i64 l) := by
  cases h with
  | nil => exact ⟨some true, [], rfl, fun _ => rfl⟩
  | c0 => exact ⟨none, [], rfl, fun _ => rfl⟩
  | list _ _ xs _ h1 h2 =>
    obtain ⟨l, rfl⟩ := ints_of (fun x hx => by simpa using h1 x hx) h2
    exact ⟨some false, l, rfl, fo_false _⟩
theorem rows_of : ∀ {xs : List AV}, (∀ x ∈ xs, x.one = true ∧ x.cells.length = 1) → (∀ x ∈ xs, ∀ (i : Nat) (s : Sc) (y : AV), ([.sl false [.int .i64]] : List Sc)[i]? = some s → x.cells[i]? = some y → Imp s y) → ∃ l : List (List Int), All2 RowV xs l
  | [], _, _ => ⟨[], .nil⟩
  | x :: xs, h1, h2 => by
    obtain ⟨l, hl⟩ := rows_of (xs := xs) (fun y hy => h1 y (by simp [hy])) (fun y hy => h2 y (by simp [hy]))
    have ho := (h1 x (by simp)).1
    have := h2 x (by simp) 0 _ x rfl (by rw [AV.one_cells ho]; rfl)
    obtain ⟨f, r, hx, hf⟩ := imp_ints this
    exact ⟨r :: l, .cons ⟨f, hx, hf⟩ hl⟩
theorem imp_rows {x : AV} (h : Imp (.sl false [.sl false [.int .i64]]) x) : ∃ (f : Option Bool) (rs : List AV) (l : List (List Int)), x = lv f rs ∧ Fo f rs ∧ All2 RowV rs l := by
  cases h with
  | nil => exact ⟨some true, [], [], rfl, fun _ => rfl, .nil⟩
  | c0 => exact ⟨none, [], [], rfl, fun _ => rfl, .nil⟩
  | list _ _ xs _ h1 h2 =>
    obtain ⟨l, hl⟩ := rows_of (fun x hx => by simpa using h1 x hx) h2
    exact ⟨some false, xs, l, rfl, fo_false _, hl⟩

def shD : List Sc := List.replicate 256 (.int .u8) ++ [.sl false [.sl false [.int .i64]], .sl false [.int .i64]]

theorem cls_of : ∀ {n : Nat} {xs : List AV}, xs.length = n → (∀ (i : Nat) (y : AV), xs[i]? = some y → Imp (.int .u8) y) → ∃ l : List Int, xs = ints .u8 l ∧ l.length = n ∧ ∀ x ∈ l, 0 ≤ x ∧ x < 256
  | 0, xs, h, _ => ⟨[], by rw [List.length_eq_zero_iff.1 h]; rfl, rfl, fun x hx => by cases hx⟩
  | n + 1, x :: xs, h, hi => by
    obtain ⟨l, hl, hn, hb⟩ := cls_of (n := n) (xs := xs) (by simpa using h) (fun i y hy => hi (i + 1) y (by simpa using hy))
    have h0 := hi 0 x rfl
    cases h0 with
    | int _ k hw =>
      have hkb := Go.bounds_u8 hw
      refine ⟨k :: l, by rw [hl]; rfl, by simp [hn], fun z hz => ?_⟩
      rcases List.mem_cons.1 hz with rfl | hz
      · omega
      · exact hb z hz

theorem imp_dfa {D : List AV} (h : ImpL shD D) : ∃ (cls : List Int) (rs : List AV) (rows : List (List Int)) (ends : List Int) (fn fe : Option Bool), D.length = 258 ∧ D[256]? = some (lv fn rs) ∧ D[257]? = some (lv fe (ints .i64 ends)) ∧ D.take 256 = ints .u8 cls ∧ cls.length = 256 ∧ (∀ x ∈ cls, 0 ≤ x ∧ x < 256) ∧ Fo fn rs ∧ Fo fe (ints .i64 ends) ∧ All2 RowV rs rows := by
  obtain ⟨hl, hi⟩ := h
  have hl2 : D.length = 258 := by rw [hl]; simp [shD]
  have s256 : shD[256]? = some (.sl false [.sl false [.int .i64]]) := by unfold shD; rw [List.getElem?_append_right (by simp)]; simp
  have s257 : shD[257]? = some (.sl false [.int .i64]) := by unfold shD; rw [List.getElem?_append_right (by simp)]; simp
  have g256 := List.getElem?_eq_getElem (show 256 < D.length by omega)
  have g257 := List.getElem?_eq_getElem (show 257 < D.length by omega)
  obtain ⟨fn, rs, rows, e1, f1, r1⟩ := imp_rows (hi 256 _ _ s256 g256)
  obtain ⟨fe, ends, e2, f2⟩ := imp_ints (hi 257 _ _ s257 g257)
  obtain ⟨cls, c1, c2, c3⟩ := cls_of (n := 256) (xs := D.take 256) (by simp; omega) (fun i y hy => by
    have hi2 := (List.getElem?_eq_some_iff.1 hy).1
    simp at hi2
    rw [List.getElem?_take_of_lt (by omega)] at hy
    refine hi i _ y ?_ hy
    unfold shD
    rw [List.getElem?_append_left (by simp; omega), List.getElem?_replicate]
    rw [if_pos (by omega)])
  exact ⟨cls, rs, rows, ends, fn, fe, hl2, by rw [g256, e1], by rw [g257, e2], c1, c2, c3, f1, f2, r1⟩

def l1 : ACode := a47.code.L
def l2 : ACode := a47.code.R.L
def l3 : ACode := a47.code.R.R.L
def l4 : ACode := a47.code.R.R.R.L
def l5 : ACode := a47.code.R.R.R.R.L
def l6 : ACode := a47.code.R.R.R.R.R
def lQ : ACode := .seq l3 (.seq l4 (.seq l5 l6))
def lQ2 : ACode := .seq l4 (.seq l5 l6)
theorem law_code : a47.code = .seq l1 (.seq l2 lQ) := rfl
theorem lq_code : lQ = .seq l3 lQ2 := rfl

/-- the machines' functions -/
structure Fns (Φ : Nat → Option AFn) : Prop where
  mn : Φ 44 = some a44
  mx : Φ 42 = some a42
  m8 : Φ 43 = some a43
  may : Φ 21 = some a21
  run : Φ 26 = some a26
  walk : Φ 22 = some a22
  long : Φ 23 = some a23
  rmay : Φ 29 = some a29
  rrun : Φ 30 = some a30
  rlong : Φ 28 = some a28

open Classical in
theorem any_ok (F : Fns Φ) (hb : evC Φ 27 [] heap0 = some (.ret (.bool true) heap0)) (h : Φ 47 = some a47) {D : List AV} (i0 : ImpL shD D) {x1 : AV} (i1 : Imp (.sl false [.int .u8]) x1) :
    ∃ H', evC Φ 47 [.agg D, x1] heap0 = some (.ret (.bool true) H') := by
  obtain ⟨fw, w, rfl, hfw⟩ := imp_bytes i1
  obtain ⟨cls, rs, rows, ends, fn, fe, dl, g256, g257, tk, cl, cb, hfn, hfe, hrows⟩ := imp_dfa i0
  have dA : D.take 258 = D := List.take_of_length_le (by omega)
  have hdp : part 258 true D 0 = some (.agg D) := by simp [part, dl, dA]
  have lw := lenAV_lv hfw
  rw [show (w.map byt).length = w.length by simp] at lw
  have lr := lenAV_lv hfn
  rw [hrows.length] at lr
  have hP1 : (lv fn rs).cells = [lv fn rs] := lvc fn _
  have hbh : bodyH a47 heap0 = heap0 := by unfold bodyH; split <;> rfl
  have key : Pst (evX Φ a47.code (initEnv 0 [.agg D, lv fw (w.map byt)]) heap0) (fun x e' _ => x = .ret ∧ e'.get 4 = .v (.bool true)) fun _ _ _ => False := by
    rw [law_code]
    apply pst_seq
    simp [l1, a47, ACode.L, evX_ops, opsS, wantedS, opS, opv, Env.av, Env.sl, Env.get, setDst, initEnv, agc, dl, pst_go, Nx]
    apply pst_seq
    simp [l2, a47, ACode.L, ACode.R, evX_seq, evX_ops, evX_cond, evX_skip, opsS, wantedS, opS, opv, Env.av, Env.sl, Env.get, setDst, allAV, hb, unAV, pst_go, Nx]
    rw [lq_code]
    apply pst_seq
    by_cases h1 : (10 : Int) < rows.length
    · simp [l3, a47, ACode.L, ACode.R, evX_seq, evX_ops, evX_cond, evX_ret, opsS, wantedS, opS, opv, Env.av, Env.sl, Env.get, setDst, addrS, pcell, agc, g256, hP1, lr, i64, binAV, cmpI, h1, pst_go, Nx]
    by_cases h2 : (20 : Int) < w.length
    · simp [l3, a47, ACode.L, ACode.R, evX_seq, evX_ops, evX_cond, evX_ret, opsS, wantedS, opS, opv, Env.av, Env.sl, Env.get, setDst, addrS, pcell, agc, g256, hP1, lr, lw, i64, binAV, cmpI, h1, h2, pst_go, Nx]
    simp [l3, a47, ACode.L, ACode.R, evX_seq, evX_ops, evX_cond, evX_skip, opsS, wantedS, opS, opv, Env.av, Env.sl, Env.get, setDst, addrS, pcell, agc, g256, hP1, lr, lw, i64, binAV, cmpI, h1, h2, pst_go, Nx]
    have hD : DV D cls rs rows ends fn fe := ⟨dl, g256, g257, tk, dA, cl, cb, by omega, hfn, hfe, hrows⟩
    have hw : w.length ≤ 2 ^ 40 := by omega
    have d1 := longest_ok F.mn F.mx F.m8 F.may F.walk F.long hD hfw hw (H := heap0)
    have d2 := rlong_ok F.rmay F.rrun F.rlong hD hfw hw (H := heap0)
    have d3 := dmay_ok F.mn F.mx F.m8 F.may hD (H := heap0)
    have d4 := rmay_ok F.rmay hD (H := heap0)
    have d5 := run_ok F.mn F.mx F.m8 F.may F.run hD hfw hw (H := heap0)
    have d6 := rrun_ok F.rmay F.rrun hD hfw hw (H := heap0)
    generalize (longV cls rows ends w).1 = A at d1 d2
    generalize (longV cls rows ends w).2 = B at d1 d2
    generalize runV cls rows ends w = R at d5 d6
    generalize decide (May cls rows ends) = M at d3 d4
    unfold lQ2
    apply pst_seq
    simp [l4, a47, ACode.L, ACode.R, evX_ops, opsS, wantedS, opS, opv, Env.av, Env.sl, Env.get, setDst, agc, dl, hdp, allAV, d1, pst_go, Nx]
    apply pst_seq
    simp [l5, a47, ACode.L, ACode.R, evX_ops, opsS, wantedS, opS, opv, Env.av, Env.sl, Env.get, setDst, agc, dl, hdp, allAV, d2, pst_go, Nx]
    simp [l6, a47, ACode.R, evX_seq, evX_dops, evX_ret, opsS, wantedS, opS, opv, Env.av, Env.sl, Env.get, setDst, agc, dl, hdp, allAV, d3, d4, d5, d6, eqAV, binAV, cmpI, Pst]
  rw [evC_eq h rfl, hbh]
  cases ho : evX Φ a47.code (initEnv 0 [.agg D, lv fw (w.map byt)]) heap0 with
  | none => rw [ho] at key; exact key.elim
  | some o =>
    rw [ho] at key
    rcases o with ⟨x, e, H'⟩ | ⟨w, e, H'⟩
    · obtain ⟨rfl, g1⟩ := key
      have hr : a47.results = [.tmp 4] := rfl
      have hp : a47.pure = true := rfl
      exact ⟨heap0, by simp [finS, hr, resOf, resS, g1, hp, AV.under]⟩
    · exact key.elim
end Ey.Da
