/- ScriptLeft: by hand. -/
import Derived.Test.YtmjbahmjgajmiaaGreatDoorScSi
import Derived.Test.YtmjbahmjgajmiaaGreatDoorScScl
set_option maxRecDepth 100000
namespace Ey.Sc
open Go (IntKind)
variable {Φ : Nat → Option AFn}

def cL1 : ACode := a212.code.L
def cL2 : ACode := a212.code.R.L
def cL3 : ACode := a212.code.R.R.L
def cL4 : ACode := a212.code.R.R.R.L
def cL5 : ACode := a212.code.R.R.R.R.L
def cL6 : ACode := a212.code.R.R.R.R.R.L
def cL7 : ACode := a212.code.R.R.R.R.R.R.L
def cL8 : ACode := a212.code.R.R.R.R.R.R.R.L
def cL9 : ACode := a212.code.R.R.R.R.R.R.R.R.L
def cLF : ACode := a212.code.R.R.R.R.R.R.R.R.R
def cLS : ACode := .seq cL4 (.seq cL5 (.seq cL6 (.seq cL7 (.seq cL8 (.seq cL9 cLF)))))
theorem left_code : a212.code = .seq cL1 (.seq cL2 (.seq cL3 cLS)) := rfl

/-- ahead of the switch -/
structure LS (k a b : Int) (ft : Option Bool) (t : List UInt8) (fp : Option Bool) (p : List Int) (e : Env) : Prop where
  e1 : e.get 1 = .v (.int .i64 a)
  e2 : e.get 2 = .v (.int .i64 b)
  e3 : e.get 3 = .v (lv ft (t.map byt))
  e4 : e.get 4 = .v (lv fp (ints .i64 p))
  e11 : e.get 11 = .lv [.int .i64 k, .int .i64 a, .int .i64 b, lv ft (t.map byt), lv fp (ints .i64 p)]
  e12 : e.get 12 = .v (.bool (decide (0 ≤ a) && decide (a < 65536)))
  e13 : e.get 13 = .v (.bool ((decide (0 ≤ a) && decide (a < 65536)) && (decide (0 ≤ b) && decide (b < 65536))))
  e14 : e.get 14 = .v (.bool (decide (t = []) && decide (p = [])))
  e15 : e.get 15 = .v (.bool false)

def inR (x : Int) : Bool := decide (0 ≤ x) && decide (x < 256)
def cT9 : ACode := cL9.R.K.R.E.R.E.R.E.R.E.R.T
def loopL : ACode := cT9.R.R.K
def roundL : ACode := loopL.P

def q0 : ACode := cL9.L
def q60 : ACode := cL9.R.K.L
def q68 : ACode := cL9.R.K.R.E.L
def q80 : ACode := cL9.R.K.R.E.R.E.L
def q93 : ACode := cL9.R.K.R.E.R.E.R.E.L
def q105 : ACode := cL9.R.K.R.E.R.E.R.E.R.E.L
def q106 : ACode := cT9.L
def q16 : ACode := cT9.R.L
def qF : ACode := .seq q16 (.block 1 loopL)
def qE5 : ACode := .cond (.t 105) (.seq q106 qF) .skip
def qE4 : ACode := .cond (.t 93) cL9.R.K.R.E.R.E.R.E.R.T (.seq q105 qE5)
def qE3 : ACode := .cond (.t 80) cL9.R.K.R.E.R.E.R.T (.seq q93 qE4)
def qE2 : ACode := .cond (.t 68) cL9.R.K.R.E.R.T (.seq q80 qE3)
def qE1 : ACode := .cond (.t 60) cL9.R.K.R.T (.seq q68 qE2)
theorem switch_code : cL9 = .seq q0 (.block 0 (.seq q60 qE1)) := rfl

/-- at a round's head: so far all pages may be -/
structure LI9 (fp : Option Bool) (p : List Int) (cs : List AV) (m : Bool) (i : Nat) (e : Env) : Prop where
  e4 : e.get 4 = .v (lv fp (ints .i64 p))
  e11 : e.get 11 = .lv cs
  e15 : e.get 15 = .v (.bool (m && (p.take i).all inR))
  e16 : e.get 16 = .v (.int .i64 i)
  le : i ≤ p.length

theorem roundL_end {fp : Option Bool} {p : List Int} {cs : List AV} {m : Bool} {e : Env} {H : Heap} (hfp : Fo fp (ints .i64 p)) (h : LI9 fp p cs m p.length e) :
    Pst (evX Φ roundL e H) (fun x e' H' => x = .exit 1 ∧ H' = H ∧ e'.get 11 = .lv cs ∧ e'.get 15 = .v (.bool (m && p.all inR))) fun _ _ _ => False := by
  have l2 := lenAV_lv hfp
  have i2 : (ints .i64 p).length = p.length := by simp [ints]
  rw [i2] at l2
  have e4 := h.e4
  have e16 := h.e16
  have e15 := h.e15
  rw [List.take_length] at e15
  simp [roundL, loopL, cT9, cL9, a212, ACode.R, ACode.L, ACode.K, ACode.E, ACode.T, ACode.P, evX_seq, evX_ops, evX_cond, evX_exit, opsS, wantedS, opS, opv, Env.av, Env.sl, Env.get, setDst, e4, e16, l2, i64, binAV, cmpI, Pst]
  exact ⟨h.e11, e15⟩
theorem roundL_on {fp : Option Bool} {p : List Int} {cs : List AV} {m : Bool} {i : Nat} {e : Env} {H : Heap} (hfp : Fo fp (ints .i64 p)) (hl : p.length ≤ 300) (hi : i < p.length) (h : LI9 fp p cs m i e) :
    Pst (evX Φ roundL e H) (Onw fun e' H' => H' = H ∧ LI9 fp p cs m (i + 1) (keepS [4, 11, 15, 16, 131, 132, 133, 134, 135, 138, 139, 140, 141, 142] e')) fun _ _ _ => False := by
  have l2 := lenAV_lv hfp
  have i2 : (ints .i64 p).length = p.length := by simp [ints]
  rw [i2] at l2
  have hx : (ints .i64 p)[i]? = some (.int .i64 p[i]) := by simp [ints, List.getElem?_eq_getElem hi]
  have e4 := h.e4
  have l3 := l2
  rw [ix_lv hfp hx] at e4 l3
  have e16 := h.e16
  have e15 := h.e15
  have hll : ((i : Int) < (p.length : Int)) := by omega
  have w2 : IntKind.wrap .i64 ((i : Int) + 1) = ((i + 1 : Nat) : Int) := by have := wrap_small (n := i + 1) (by omega); push_cast at this ⊢; exact this
  have htk : (m && (p.take (i + 1)).all inR) = ((m && (p.take i).all inR) && (decide (0 ≤ p[i]) && decide (p[i] < 256))) := by
    rw [List.take_succ_eq_append_getElem hi, List.all_append]
    simp [inR, Bool.and_assoc]
  have fin : ∀ (e' : Env) (v : Bool), e'.get 4 = e.get 4 → e'.get 11 = e.get 11 → e'.get 15 = .v (.bool v) → e'.get 16 = .v (.int .i64 ((i + 1 : Nat) : Int)) → v = (m && (p.take (i + 1)).all inR) → LI9 fp p cs m (i + 1) (keepS [4, 11, 15, 16, 131, 132, 133, 134, 135, 138, 139, 140, 141, 142] e') := by
    intro e' v g4 g11 g15 g16 hv
    exact ⟨by simp [keepS, Env.get, g4, h.e4], by simp [keepS, Env.get, g11, h.e11], by simp [keepS, Env.get, g15, hv], by simp [keepS, Env.get, g16], by omega⟩
  rw [htk] at fin
  generalize (m && (p.take i).all inR) = M at e15 fin
  cases M with
  | false =>
    simp [roundL, loopL, cT9, cL9, a212, ACode.R, ACode.L, ACode.K, ACode.E, ACode.T, ACode.P, evX_seq, evX_ops, evX_cond, evX_skip, evX_block, opsS, wantedS, opS, opv, Env.av, Env.sl, Env.get, setDst, e4, e15, e16, l3, i64, binAV, cmpI, hll, arI, w2, Pst, Onw]
    exact fin _ false (by simp [Env.get]) (by simp [Env.get]) (by simp [Env.get]) (by simp [Env.get]) rfl
  | true =>
    cases h0 : decide (0 ≤ p[i])
    · rw [h0] at fin
      have h0' := h0
      simp only [decide_eq_false_iff_not] at h0'
      simp [roundL, loopL, cT9, cL9, a212, ACode.R, ACode.L, ACode.K, ACode.E, ACode.T, ACode.P, evX_seq, evX_ops, evX_cond, evX_skip, evX_block, opsS, wantedS, opS, opv, Env.av, Env.sl, Env.get, setDst, e4, e15, e16, l3, i64, binAV, cmpI, hll, hx, int_cells, ldS, part, h0', arI, w2, Pst, Onw]
      exact fin _ false (by simp [Env.get]) (by simp [Env.get]) (by simp [Env.get]) (by simp [Env.get]) (by simp)
    · rw [h0] at fin
      have h0' := h0
      simp only [decide_eq_true_eq] at h0'
      simp [roundL, loopL, cT9, cL9, a212, ACode.R, ACode.L, ACode.K, ACode.E, ACode.T, ACode.P, evX_seq, evX_ops, evX_cond, evX_skip, evX_block, opsS, wantedS, opS, opv, Env.av, Env.sl, Env.get, setDst, e4, e15, e16, l3, i64, binAV, cmpI, hll, hx, int_cells, ldS, part, h0', arI, w2, Pst, Onw]
      exact fin _ (decide (p[i] < 256)) (by simp [Env.get]) (by simp [Env.get]) (by simp [Env.get]) (by simp [Env.get]) (by simp)
theorem loopL_ok {fp : Option Bool} {p : List Int} {cs : List AV} {m : Bool} {e : Env} {H : Heap} (hfp : Fo fp (ints .i64 p)) (hl : p.length ≤ 300) (h : LI9 fp p cs m 0 (keepS [4, 11, 15, 16, 131, 132, 133, 134, 135, 138, 139, 140, 141, 142] e)) :
    Pst (evX Φ loopL e H) (fun x e' H' => x = .exit 1 ∧ H' = H ∧ e'.get 11 = .lv cs ∧ e'.get 15 = .v (.bool (m && p.all inR))) fun _ _ _ => False := by
  refine pst_loop (k := [4, 11, 15, 16, 131, 132, 133, 134, 135, 138, 139, 140, 141, 142]) (a := roundL) (fun n e K => K = H ∧ ∃ i, n = p.length - i ∧ LI9 fp p cs m i e) (fun n e K hi => ?_) _ e H ⟨rfl, 0, rfl, h⟩
  obtain ⟨rfl, i, rfl, hi⟩ := hi
  by_cases hl2 : i < p.length
  · exact (roundL_on hfp hl hl2 hi).mono (fun x e' H' hq => by
      cases x with
      | nrm => exact ⟨_, by omega, hq.1, i + 1, rfl, hq.2⟩
      | _ => exact hq.elim) (fun _ _ _ h => h)
  · have : i = p.length := by have := hi.le; omega
    subst this
    refine (roundL_end hfp hi).mono (fun x e' H' hq => ?_) (fun _ _ _ h => h)
    obtain ⟨rfl, hq⟩ := hq
    exact ⟨rfl, hq⟩

open Classical in
theorem switch_ok {k a b : Int} {ft : Option Bool} {t : List UInt8} {fp : Option Bool} {p : List Int} {e : Env} {H : Heap} (hk : 0 ≤ k ∧ k < 13) (hft : Fo ft (t.map byt)) (hfp : Fo fp (ints .i64 p)) (hl : p.length ≤ 300) (h : LS k a b ft t fp p e) :
    Pst (evX Φ cL9 e H) (Onw fun e' H' => H' = H ∧ e'.get 11 = e.get 11 ∧ e'.get 15 = .v (.bool (decide (Scr.Ok ⟨k, a, b, t, p⟩)))) fun _ _ _ => False := by
  have l1 := lenAV_lv hft
  have l2 := lenAV_lv hfp
  have i1 : (t.map byt).length = t.length := by simp
  have i2 : (ints .i64 p).length = p.length := by simp [ints]
  rw [i1] at l1; rw [i2] at l2
  have hcs : k = 1 ∨ k = 2 ∨ k = 3 ∨ k = 4 ∨ k = 5 ∨ k = 6 ∨ k = 7 ∨ k = 8 ∨ k = 10 ∨ k = 9 ∨ k = 0 ∨ k = 11 ∨ k = 12 := by omega
  have h11 := h.e11
  have e1 := h.e1
  have e2 := h.e2
  have e3 := h.e3
  have e4 := h.e4
  have e12 := h.e12
  have e13 := h.e13
  have e14 := h.e14
  have e15 := h.e15
  have hbare : (decide (t = []) && decide (p = [])) = decide (t = [] ∧ p = []) := by simp
  rcases hcs with rfl | rfl | rfl | rfl | rfl | rfl | rfl | rfl | rfl | rfl | rfl | rfl | rfl
  · -- 1
    have ok : decide (Scr.Ok ⟨1, a, b, t, p⟩) = (((decide (0 ≤ a) && decide (a < 65536)) && (decide (0 ≤ b) && decide (b < 65536))) && decide (t = [] ∧ p = [])) := by
      rw [Bool.eq_iff_iff]; simp [Scr.ok_window, and_assoc]
    rw [ok]
    rw [hbare] at e14
    cases hw : ((decide (0 ≤ a) && decide (a < 65536)) && (decide (0 ≤ b) && decide (b < 65536)))
    all_goals
      rw [hw] at e13
      simp [cL9, a212, ACode.R, ACode.L, evX_seq, evX_ops, evX_cond, evX_skip, evX_block, opsS, wantedS, opS, opv, Env.av, Env.sl, Env.get, setDst, h11, e13, e14, addrS, ldS, part, binAV, cmpI, Pst, Onw]
  · -- 2
    have ok : decide (Scr.Ok ⟨2, a, b, t, p⟩) = (((decide (0 ≤ a) && decide (a < 65536)) && (decide (0 ≤ b) && decide (b < 65536))) && decide (t = [] ∧ p = [])) := by
      rw [Bool.eq_iff_iff]; simp [Scr.ok_window, and_assoc]
    rw [ok]
    rw [hbare] at e14
    cases hw : ((decide (0 ≤ a) && decide (a < 65536)) && (decide (0 ≤ b) && decide (b < 65536)))
    all_goals
      rw [hw] at e13
      simp [cL9, a212, ACode.R, ACode.L, evX_seq, evX_ops, evX_cond, evX_skip, evX_block, opsS, wantedS, opS, opv, Env.av, Env.sl, Env.get, setDst, h11, e13, e14, addrS, ldS, part, binAV, cmpI, Pst, Onw]
  · -- 3
    have ok : decide (Scr.Ok ⟨3, a, b, t, p⟩) = (((decide (0 ≤ a) && decide (a < 65536)) && (decide (0 ≤ b) && decide (b < 65536))) && decide (t = [] ∧ p = [])) := by
      rw [Bool.eq_iff_iff]; simp [Scr.ok_window, and_assoc]
    rw [ok]
    rw [hbare] at e14
    cases hw : ((decide (0 ≤ a) && decide (a < 65536)) && (decide (0 ≤ b) && decide (b < 65536)))
    all_goals
      rw [hw] at e13
      simp [cL9, a212, ACode.R, ACode.L, evX_seq, evX_ops, evX_cond, evX_block, opsS, wantedS, opS, opv, Env.av, Env.sl, Env.get, setDst, h11, e13, e14, addrS, ldS, part, binAV, cmpI, Pst, Onw]
  · -- 4
    have ok : decide (Scr.Ok ⟨4, a, b, t, p⟩) = ((decide (0 ≤ a) && decide (a < 65536)) && ((b == 0) && decide (t = [] ∧ p = []))) := by
      rw [Bool.eq_iff_iff]; simp [Scr.ok_place, and_assoc]
    rw [ok]
    rw [hbare] at e14
    cases hw : (decide (0 ≤ a) && decide (a < 65536))
    all_goals
      rw [hw] at e12
      cases hb : (b == 0)
      all_goals
        simp [cL9, a212, ACode.R, ACode.L, evX_seq, evX_ops, evX_cond, evX_skip, evX_block, opsS, wantedS, opS, opv, Env.av, Env.sl, Env.get, setDst, e2, h11, e12, e14, addrS, ldS, part, binAV, cmpI, hb, Pst, Onw]
  · -- 5
    have ok : decide (Scr.Ok ⟨5, a, b, t, p⟩) = ((decide (0 ≤ a) && decide (a < 65536)) && ((b == 0) && decide (t = [] ∧ p = []))) := by
      rw [Bool.eq_iff_iff]; simp [Scr.ok_place, and_assoc]
    rw [ok]
    rw [hbare] at e14
    cases hw : (decide (0 ≤ a) && decide (a < 65536))
    all_goals
      rw [hw] at e12
      cases hb : (b == 0)
      all_goals
        simp [cL9, a212, ACode.R, ACode.L, evX_seq, evX_ops, evX_cond, evX_skip, evX_block, opsS, wantedS, opS, opv, Env.av, Env.sl, Env.get, setDst, e2, h11, e12, e14, addrS, ldS, part, binAV, cmpI, hb, Pst, Onw]
  · -- 6
    have ok : decide (Scr.Ok ⟨6, a, b, t, p⟩) = ((decide (0 ≤ a) && decide (a < 65536)) && ((b == 0) && decide (t = [] ∧ p = []))) := by
      rw [Bool.eq_iff_iff]; simp [Scr.ok_place, and_assoc]
    rw [ok]
    rw [hbare] at e14
    cases hw : (decide (0 ≤ a) && decide (a < 65536))
    all_goals
      rw [hw] at e12
      cases hb : (b == 0)
      all_goals
        simp [cL9, a212, ACode.R, ACode.L, evX_seq, evX_ops, evX_cond, evX_block, opsS, wantedS, opS, opv, Env.av, Env.sl, Env.get, setDst, e2, h11, e12, e14, addrS, ldS, part, binAV, cmpI, hb, Pst, Onw]
  · -- 7
    have ok : decide (Scr.Ok ⟨7, a, b, t, p⟩) = (((decide (0 ≤ a) && decide (a < 65536)) && (decide (0 ≤ b) && decide (b < 65536))) && (decide ((t.length : Int) < 256) && ((p.length : Int) == 0))) := by
      rw [Bool.eq_iff_iff]; simp [Scr.ok_edit, and_assoc]; omega
    rw [ok]
    cases hw : ((decide (0 ≤ a) && decide (a < 65536)) && (decide (0 ≤ b) && decide (b < 65536)))
    all_goals
      rw [hw] at e13
      cases ht : decide ((t.length : Int) < 256)
      all_goals
        cases hp : ((p.length : Int) == 0)
        all_goals
          simp [cL9, a212, ACode.R, ACode.L, evX_seq, evX_ops, evX_cond, evX_block, opsS, wantedS, opS, opv, Env.av, Env.sl, Env.get, setDst, e3, e4, h11, e13, addrS, ldS, part, binAV, cmpI, l1, l2, i64, ht, hp, Pst, Onw]
  · -- 8
    have ok : decide (Scr.Ok ⟨8, a, b, t, p⟩) = ((a == 0) && ((b == 0) && decide (t = [] ∧ p = []))) := by
      rw [Bool.eq_iff_iff]; simp [Scr.ok_bare]
    rw [ok]
    rw [hbare] at e14
    cases ha : (a == 0)
    all_goals
      cases hb : (b == 0)
      all_goals
        simp [cL9, a212, ACode.R, ACode.L, evX_seq, evX_ops, evX_cond, evX_skip, evX_block, opsS, wantedS, opS, opv, Env.av, Env.sl, Env.get, setDst, e1, e2, h11, e14, addrS, ldS, part, binAV, cmpI, ha, hb, Pst, Onw]
  · -- 10
    have ok : decide (Scr.Ok ⟨10, a, b, t, p⟩) = ((a == 0) && ((b == 0) && decide (t = [] ∧ p = []))) := by
      rw [Bool.eq_iff_iff]; simp [Scr.ok_bare]
    rw [ok]
    rw [hbare] at e14
    cases ha : (a == 0)
    all_goals
      cases hb : (b == 0)
      all_goals
        simp [cL9, a212, ACode.R, ACode.L, evX_seq, evX_ops, evX_cond, evX_block, opsS, wantedS, opS, opv, Env.av, Env.sl, Env.get, setDst, e1, e2, h11, e14, addrS, ldS, part, binAV, cmpI, ha, hb, Pst, Onw]
  · -- 9
    have ok : decide (Scr.Ok ⟨9, a, b, t, p⟩) = (((a == 0) && ((b == 0) && (((t.length : Int) == 0) && decide ((p.length : Int) < 256)))) && p.all inR) := by
      rw [Bool.eq_iff_iff]
      simp [Scr.ok_faults, inR, and_assoc]
      intro _ _ _
      omega
    rw [ok]
    rw [switch_code]
    apply pst_seq
    simp [q0, cL9, a212, ACode.R, ACode.L, evX_ops, opsS, wantedS, opS, opv, Env.sl, Env.get, setDst, h11, addrS, ldS, part, pst_go, Nx]
    apply pst_block
    apply pst_seq
    simp [q60, cL9, a212, ACode.R, ACode.L, ACode.K, evX_seq, evX_cond, evX_ops, opsS, wantedS, opS, opv, Env.av, Env.sl, Env.get, setDst, binAV, cmpI, pst_go, Nx]
    show Pst (evX Φ (.cond (.t 60) cL9.R.K.R.T (.seq q68 qE2)) _ _) _ _
    apply pst_cond (t := false) (by simp [Env.av, Env.sl, Env.get])
    simp only
    apply pst_seq
    simp [q68, cL9, a212, ACode.R, ACode.L, ACode.K, ACode.E, evX_seq, evX_cond, evX_ops, opsS, wantedS, opS, opv, Env.av, Env.sl, Env.get, setDst, binAV, cmpI, pst_go, Nx]
    show Pst (evX Φ (.cond (.t 68) cL9.R.K.R.E.R.T (.seq q80 qE3)) _ _) _ _
    apply pst_cond (t := false) (by simp [Env.av, Env.sl, Env.get])
    simp only
    apply pst_seq
    simp [q80, cL9, a212, ACode.R, ACode.L, ACode.K, ACode.E, evX_ops, opsS, wantedS, opS, opv, Env.av, Env.sl, Env.get, setDst, binAV, cmpI, pst_go, Nx]
    show Pst (evX Φ (.cond (.t 80) cL9.R.K.R.E.R.E.R.T (.seq q93 qE4)) _ _) _ _
    apply pst_cond (t := false) (by simp [Env.av, Env.sl, Env.get])
    simp only
    apply pst_seq
    simp [q93, cL9, a212, ACode.R, ACode.L, ACode.K, ACode.E, evX_seq, evX_cond, evX_ops, opsS, wantedS, opS, opv, Env.av, Env.sl, Env.get, setDst, binAV, cmpI, pst_go, Nx]
    show Pst (evX Φ (.cond (.t 93) cL9.R.K.R.E.R.E.R.E.R.T (.seq q105 qE5)) _ _) _ _
    apply pst_cond (t := false) (by simp [Env.av, Env.sl, Env.get])
    simp only
    apply pst_seq
    simp [q105, cL9, a212, ACode.R, ACode.L, ACode.K, ACode.E, evX_ops, opsS, wantedS, opS, opv, Env.av, Env.sl, Env.get, setDst, binAV, cmpI, pst_go, Nx]
    show Pst (evX Φ (.cond (.t 105) (.seq q106 qF) .skip) _ _) _ _
    apply pst_cond (t := true) (by simp [Env.av, Env.sl, Env.get])
    simp only
    have hend : ∀ (e1 : Env), e1.get 4 = e.get 4 → e1.get 11 = e.get 11 → e1.get 15 = .v (.bool ((a == 0) && ((b == 0) && (((t.length : Int) == 0) && decide ((p.length : Int) < 256))))) →
        Pst (evX Φ qF e1 H) (fun x e' H' => x = .nrm ∧ H' = H ∧ e'.get 11 = e.get 11 ∧ e'.get 15 = .v (.bool (((a == 0) && ((b == 0) && (((t.length : Int) == 0) && decide ((p.length : Int) < 256)))) && p.all inR))) fun _ _ _ => False := by
      intro e1 g4 g11 g15
      unfold qF
      apply pst_seq
      simp [q16, cT9, cL9, a212, ACode.R, ACode.L, ACode.K, ACode.E, ACode.T, evX_ops, opsS, wantedS, opS, opv, Env.sl, setDst, pst_go, Nx]
      apply pst_block
      refine (loopL_ok (m := ((a == 0) && ((b == 0) && (((t.length : Int) == 0) && decide ((p.length : Int) < 256))))) (cs := [.int .i64 9, .int .i64 a, .int .i64 b, lv ft (t.map byt), lv fp (ints .i64 p)]) hfp hl ⟨by simp [keepS, Env.get, g4, h.e4], by simp [keepS, Env.get, g11, h11], by simp [keepS, Env.get, g15], by simp [keepS, Env.get], by omega⟩).mono (fun x e' H' hq => ?_) (fun _ _ _ h => h)
      obtain ⟨rfl, rfl, q1, q2⟩ := hq
      simp only [if_true]
      exact ⟨trivial, trivial, q1.trans h11.symm, q2⟩
    apply pst_seq
    cases ha : (a == 0)
    all_goals
      cases hb : (b == 0)
      all_goals
        cases ht : ((t.length : Int) == 0)
        all_goals
          cases hp : decide ((p.length : Int) < 256)
          all_goals
            rw [ha, hb, ht, hp] at hend
            simp [q106, cT9, cL9, a212, ACode.R, ACode.L, ACode.K, ACode.E, ACode.T, evX_ops, opsS, wantedS, opS, opv, Env.av, Env.sl, Env.get, setDst, e1, e2, e3, e4, l1, l2, i64, binAV, cmpI, ha, hb, ht, hp, pst_go, Nx]
            refine (hend _ (by simp [Env.get]) (by simp [Env.get]) (by simp [Env.get])).mono (fun x e' H' hq => ?_) (fun _ _ _ h => h)
            obtain ⟨rfl, rfl, q1, q2⟩ := hq
            simp only [Onw]
            exact ⟨trivial, q1.trans h11, by simpa using q2⟩
  · -- 0
    have ok : decide (Scr.Ok ⟨0, a, b, t, p⟩) = false := by
      simp [Scr.ok_none]
    rw [ok]
    simp [cL9, a212, ACode.R, ACode.L, evX_seq, evX_ops, evX_cond, evX_skip, evX_block, opsS, wantedS, opS, opv, Env.av, Env.sl, Env.get, setDst, h11, e15, addrS, ldS, part, binAV, cmpI, Pst, Onw]
  · -- 11
    have ok : decide (Scr.Ok ⟨11, a, b, t, p⟩) = false := by
      simp [Scr.ok_none]
    rw [ok]
    simp [cL9, a212, ACode.R, ACode.L, evX_seq, evX_ops, evX_cond, evX_skip, evX_block, opsS, wantedS, opS, opv, Env.av, Env.sl, Env.get, setDst, h11, e15, addrS, ldS, part, binAV, cmpI, Pst, Onw]
  · -- 12
    have ok : decide (Scr.Ok ⟨12, a, b, t, p⟩) = false := by
      simp [Scr.ok_none]
    rw [ok]
    simp [cL9, a212, ACode.R, ACode.L, evX_seq, evX_ops, evX_cond, evX_skip, evX_block, opsS, wantedS, opS, opv, Env.av, Env.sl, Env.get, setDst, h11, e15, addrS, ldS, part, binAV, cmpI, Pst, Onw]

theorem cmd_arg {ft fp : Option Bool} {k a b : Int} {t : List UInt8} {p : List Int} (hft : Fo ft (t.map byt)) (hfp : Fo fp (ints .i64 p)) : CmdA (.agg [.int .i64 k, .int .i64 a, .int .i64 b, lv ft (t.map byt), lv fp (ints .i64 p)]) ⟨k, a, b, t, p⟩ := ⟨ft, fp, rfl, hft, hfp⟩

/-- what stands on -/
def Kp (l : List Nat) (e e' : Env) : Prop := ∀ j ∈ l, e'.get j = e.get j
theorem l5_ok {a : Int} {e : Env} {H : Heap} (h1 : e.get 1 = .v (.int .i64 a)) : Pst (evX Φ cL5 e H) (Onw fun e' H' => H' = H ∧ e'.get 12 = .v (.bool (decide (0 ≤ a) && decide (a < 65536))) ∧ Kp [1, 2, 3, 4, 11] e e') fun _ _ _ => False := by
  by_cases h : 0 ≤ a
  all_goals
    simp [cL5, a212, ACode.L, ACode.R, evX_ops, opsS, wantedS, opS, opv, Env.av, Env.sl, Env.get, setDst, h1, h, binAV, cmpI, Pst, Onw]
    simp [Kp, Env.get]
theorem l6_ok {b : Int} {P : Bool} {e : Env} {H : Heap} (h1 : e.get 12 = .v (.bool P)) (h2 : e.get 2 = .v (.int .i64 b)) : Pst (evX Φ cL6 e H) (Onw fun e' H' => H' = H ∧ e'.get 13 = .v (.bool (P && (decide (0 ≤ b) && decide (b < 65536)))) ∧ Kp [1, 2, 3, 4, 11, 12] e e') fun _ _ _ => False := by
  cases P
  all_goals
    by_cases h : 0 ≤ b
    all_goals
      simp [cL6, a212, ACode.L, ACode.R, evX_ops, opsS, wantedS, opS, opv, Env.av, Env.sl, Env.get, setDst, h1, h2, h, binAV, cmpI, Pst, Onw]
      simp [Kp, Env.get]
theorem l7_ok {ft fp : Option Bool} {t : List UInt8} {p : List Int} {e : Env} {H : Heap} (hft : Fo ft (t.map byt)) (hfp : Fo fp (ints .i64 p)) (h1 : e.get 3 = .v (lv ft (t.map byt))) (h2 : e.get 4 = .v (lv fp (ints .i64 p))) : Pst (evX Φ cL7 e H) (Onw fun e' H' => H' = H ∧ e'.get 14 = .v (.bool (decide (t = []) && decide (p = []))) ∧ Kp [1, 2, 3, 4, 11, 12, 13] e e') fun _ _ _ => False := by
  have l1 := lenAV_lv hft
  have l2 := lenAV_lv hfp
  have e1 : (t.map byt).length = t.length := by simp
  have e2 : (ints .i64 p).length = p.length := by simp [ints]
  rw [e1] at l1; rw [e2] at l2
  by_cases ht : t = []
  all_goals
    by_cases hp : p = []
    all_goals
      have ht2 : ((t.length : Int) == 0) = decide (t = []) := by rw [Bool.eq_iff_iff]; simp
      have hp2 : ((p.length : Int) == 0) = decide (p = []) := by rw [Bool.eq_iff_iff]; simp
      simp only [ht, hp, decide_true, decide_false] at ht2 hp2
      simp [cL7, a212, ACode.L, ACode.R, evX_ops, opsS, wantedS, opS, opv, Env.av, Env.sl, Env.get, setDst, h1, h2, l1, l2, i64, ht2, hp2, binAV, cmpI, Pst, Onw]
      simp [Kp, Env.get, ht, hp]

def cLT : ACode := .seq cL3 cLS
theorem left_code2 : a212.code = .seq cL1 (.seq cL2 cLT) := rfl

open Classical in
theorem left_ok (F : Fns Φ) (hb : evC Φ 197 [] heap0 = some (.ret (.bool true) heap0)) (h : Φ 212 = some a212) {x0 x1 x2 x3 x4 : AV} (i0 : Imp (.int .u8) x0) (i1 : Imp (.int .i64) x1) (i2 : Imp (.int .i64) x2) (i3 : Imp (.sl false [.int .u8]) x3) (i4 : Imp (.sl false [.int .i64]) x4) :
    ∃ H', evC Φ 212 [x0, x1, x2, x3, x4] heap0 = some (.ret (.bool true) H') := by
  cases i0 with
  | int _ n hn =>
  cases i1 with
  | int _ a ha =>
  cases i2 with
  | int _ b hb2 =>
  obtain ⟨ft, t, rfl, hft⟩ := imp_bytes i3
  obtain ⟨fp, p, rfl, hfp⟩ := imp_ints i4
  have bn := Go.bounds_u8 hn
  have l1 := lenAV_lv hft
  have l2 := lenAV_lv hfp
  have e1 : (t.map byt).length = t.length := by simp
  have e2 : (ints .i64 p).length = p.length := by simp [ints]
  rw [e1] at l1; rw [e2] at l2
  have hr : a212.results = [.tmp 10] := rfl
  have hp : a212.pure = true := rfl
  have key : Pst (evX Φ a212.code (initEnv 0 [.int .u8 n, .int .i64 a, .int .i64 b, lv ft (t.map byt), lv fp (ints .i64 p)]) heap0) (fun x e' _ => x = .ret ∧ e'.get 10 = .v (.bool true)) fun _ _ _ => False := by
    rw [left_code2]
    apply pst_seq
    simp [cL1, a212, ACode.L, evX_ops, opsS, wantedS, opS, opv, Env.sl, setDst, initEnv, pst_go, Nx]
    apply pst_seq
    simp [cL2, a212, ACode.L, ACode.R, evX_seq, evX_ops, evX_cond, evX_skip, opsS, wantedS, opS, opv, Env.av, Env.sl, Env.get, setDst, allAV, hb, unAV, pst_go, Nx]
    show Pst (evX Φ (.seq cL3 cLS) _ _) _ _
    apply pst_seq
    by_cases h1 : (300 : Int) < t.length
    · simp [cL3, a212, ACode.L, ACode.R, evX_seq, evX_ops, evX_cond, evX_ret, opsS, wantedS, opS, opv, Env.av, Env.sl, Env.get, setDst, l1, i64, binAV, cmpI, h1, pst_go, Nx]
    by_cases h2 : (300 : Int) < p.length
    · simp [cL3, a212, ACode.L, ACode.R, evX_seq, evX_ops, evX_cond, evX_ret, opsS, wantedS, opS, opv, Env.av, Env.sl, Env.get, setDst, l1, l2, i64, binAV, cmpI, h1, h2, pst_go, Nx]
    simp [cL3, a212, ACode.L, ACode.R, evX_seq, evX_ops, evX_cond, evX_skip, opsS, wantedS, opS, opv, Env.av, Env.sl, Env.get, setDst, l1, l2, i64, binAV, cmpI, h1, h2, pst_go, Nx]
    have w1 : IntKind.wrap .i64 (n.tmod 13) = n % 13 := by
      rw [Int.tmod_eq_emod_of_nonneg (by omega)]
      have := wrap_small (n := (n % 13).toNat) (by omega)
      rw [show (((n % 13).toNat : Nat) : Int) = n % 13 by omega] at this
      exact this
    have hk : 0 ≤ n % 13 ∧ n % 13 < 13 := by omega
    generalize n % 13 = k at w1 hk
    unfold cLS
    apply pst_seq
    simp [cL4, a212, ACode.L, ACode.R, evX_ops, opsS, wantedS, opS, opv, Env.av, Env.sl, Env.get, setDst, binAV, arI, w1, allParts, fillAV, int_cells, lv_cells, agg_cells, putAt, stS, pst_go, Nx]
    apply pst_seq
    refine (l5_ok (a := a) (by simp [Env.get])).mono (fun x e H hq => ?_) (fun _ _ _ h => h)
    cases x <;> try exact hq.elim
    obtain ⟨rfl, g12, k1⟩ := hq
    have f1 : e.get 1 = .v (.int .i64 a) := (k1 1 (by simp)).trans (by simp [Env.get])
    have f2 : e.get 2 = .v (.int .i64 b) := (k1 2 (by simp)).trans (by simp [Env.get])
    have f3 : e.get 3 = .v (lv ft (t.map byt)) := (k1 3 (by simp)).trans (by simp [Env.get])
    have f4 : e.get 4 = .v (lv fp (ints .i64 p)) := (k1 4 (by simp)).trans (by simp [Env.get])
    have f11 : e.get 11 = .lv [.int .i64 k, .int .i64 a, .int .i64 b, lv ft (t.map byt), lv fp (ints .i64 p)] := (k1 11 (by simp)).trans (by simp [Env.get])
    clear k1
    apply pst_seq
    refine (l6_ok g12 f2).mono (fun x e' H hq => ?_) (fun _ _ _ h => h)
    cases x <;> try exact hq.elim
    obtain ⟨rfl, g13, k2⟩ := hq
    have f1 := (k2 1 (by simp)).trans f1
    have f2 := (k2 2 (by simp)).trans f2
    have f3 := (k2 3 (by simp)).trans f3
    have f4 := (k2 4 (by simp)).trans f4
    have f11 := (k2 11 (by simp)).trans f11
    have g12 := (k2 12 (by simp)).trans g12
    clear k2
    apply pst_seq
    refine (l7_ok hft hfp f3 f4).mono (fun x e'' H hq => ?_) (fun _ _ _ h => h)
    cases x <;> try exact hq.elim
    obtain ⟨rfl, g14, k3⟩ := hq
    have f1 := (k3 1 (by simp)).trans f1
    have f2 := (k3 2 (by simp)).trans f2
    have f3 := (k3 3 (by simp)).trans f3
    have f4 := (k3 4 (by simp)).trans f4
    have f11 := (k3 11 (by simp)).trans f11
    have g12 := (k3 12 (by simp)).trans g12
    have g13 := (k3 13 (by simp)).trans g13
    clear k3
    apply pst_seq
    simp [cL8, a212, ACode.L, ACode.R, evX_ops, opsS, wantedS, opS, opv, Env.sl, setDst, pst_go, Nx]
    apply pst_seq
    have hl300 : p.length ≤ 300 := by omega
    refine (switch_ok (k := k) (a := a) (b := b) hk hft hfp hl300 ⟨by simp [Env.get, f1], by simp [Env.get, f2], by simp [Env.get, f3], by simp [Env.get, f4], by simp [Env.get, f11], by simp [Env.get, g12], by simp [Env.get, g13], by simp [Env.get, g14], by simp [Env.get]⟩).mono (fun x e3 H hq => ?_) (fun _ _ _ h => h)
    cases x <;> try exact hq.elim
    obtain ⟨rfl, q1, q2⟩ := hq
    have q1' : e3.get 11 = .lv [.int .i64 k, .int .i64 a, .int .i64 b, lv ft (t.map byt), lv fp (ints .i64 p)] := q1.trans (by simp [Env.get, f11])
    obtain ⟨r, er, nl, rfl, hnl⟩ := encode_ok F (f := some false) (xs := [.agg [.int .i64 k, .int .i64 a, .int .i64 b, lv ft (t.map byt), lv fp (ints .i64 p)]]) (cs := [⟨k, a, b, t, p⟩]) (H := heap0) (fo_false _) (.cons (cmd_arg hft hfp) .nil) (fun c hc => by
      simp only [List.mem_singleton] at hc; subst hc
      exact ⟨by show t.length ≤ _; omega, by show p.length ≤ _; omega⟩) (by simp) fresh0
    have er' : evC Φ 199 [.list false [.agg [.int .i64 k, .int .i64 a, .int .i64 b, lv ft (t.map byt), lv fp (ints .i64 p)]]] heap0 = _ := er
    have hlen : lenAV (.list nl ((Scr.enc [⟨k, a, b, t, p⟩]).map byt)) = some (Scr.enc [⟨k, a, b, t, p⟩]).length := by simp [lenAV]
    have hmay : 0 < (Scr.enc [⟨k, a, b, t, p⟩]).length ↔ Scr.Ok ⟨k, a, b, t, p⟩ := by
      rw [← Scr.left]
      exact List.length_pos_iff
    show Pst (evX Φ cLF e3 heap0) _ _
    simp [cLF, a212, ACode.R, evX_seq, evX_ops, evX_ret, opsS, wantedS, opS, opv, Env.av, Env.sl, Env.get, setDst, q1', q2, part, allParts, mklAV, agg_cells, allAV, er', hlen, i64, binAV, cmpI, eqAV, Pst]
    exact hmay
  rw [evC_eq h rfl, bodyH0]
  cases ho : evX Φ a212.code (initEnv 0 [.int .u8 n, .int .i64 a, .int .i64 b, lv ft (t.map byt), lv fp (ints .i64 p)]) heap0 with
  | none => rw [ho] at key; exact key.elim
  | some o =>
    rw [ho] at key
    rcases o with ⟨x, e, H'⟩ | ⟨w, e, H'⟩
    · obtain ⟨rfl, g1⟩ := key
      exact ⟨heap0, by simp [finS, hr, resOf, resS, g1, hp, AV.under]⟩
    · exact key.elim
end Ey.Sc
