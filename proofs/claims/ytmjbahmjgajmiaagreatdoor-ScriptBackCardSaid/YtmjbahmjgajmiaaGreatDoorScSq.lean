/- put, same: by hand. -/
import Derived.Test.YtmjbahmjgajmiaaGreatDoorScSd
set_option maxRecDepth 100000
namespace Ey.Sc
open Go (IntKind)
variable {Φ : Nat → Option AFn}

theorem int_cells (k : IntKind) (n : Int) : (AV.int k n).cells = [.int k n] := rfl
theorem byt_cell (x : UInt8) : (byt x).cells = [byt x] := rfl
theorem el1 (H : Heap) (x : UInt8) : elemsOf H 1 (.list false [byt x]) = some [byt x] := rfl
theorem wrap_u8 (n : Int) : IntKind.wrap .u8 n = n % 256 := by
  simp [IntKind.wrap, IntKind.signed, IntKind.bits]
theorem wrap_i64_mod (n : Int) : IntKind.wrap .i64 n % 256 = n % 256 := by
  simp only [IntKind.wrap, IntKind.signed, IntKind.bits, Bool.true_and]
  split <;> omega
theorem byt_u8 (n : Int) : AV.int .u8 (n % 256) = byt (Scr.u8 n) := by
  unfold byt Scr.u8
  have : (UInt8.ofNat (n % 256).toNat).toNat = (n % 256).toNat := by rw [UInt8.toNat_ofNat']; omega
  rw [this]
  congr 1
  omega
theorem u8_wrap (n : Int) : AV.int .u8 (IntKind.wrap .u8 n) = byt (Scr.u8 n) := by rw [wrap_u8, byt_u8]
theorem u8_wrap2 (n : Int) : AV.int .u8 (IntKind.wrap .u8 (IntKind.wrap .i64 n)) = byt (Scr.u8 n) := by rw [wrap_u8, wrap_i64_mod, byt_u8]
theorem shr8 (a : Int) : shI .shr .i64 a 8 = some (a / 256) := by
  show (if (8 : Int) < 0 then none else some (a.fdiv (2 ^ (min (8 : Int).toNat 64)))) = _
  rw [if_neg (by omega)]
  have : (2 : Int) ^ (min (8 : Int).toNat 64) = 256 := by decide
  rw [this, Int.fdiv_eq_ediv_of_nonneg _ (by omega)]

/-- a command as an argument: texts, pages of whatever form -/
def CmdA (v : AV) (c : Scr.MC) : Prop := ∃ ft fp, v = .agg [.int .i64 c.kind, .int .i64 c.a, .int .i64 c.b, lv ft (c.text.map byt), lv fp (ints .i64 c.pages)] ∧ Fo ft (c.text.map byt) ∧ Fo fp (ints .i64 c.pages)

theorem cmdA_of {v : AV} {c : Scr.MC} (h : CmdF v c) : CmdA v c := by
  obtain ⟨t, p, rfl, ⟨n, rfl, hn⟩, m, rfl, hm⟩ := h
  refine ⟨some n, some m, rfl, fun h => ?_, fun h => ?_⟩
  · cases n
    · exact absurd rfl h
    · rw [hn rfl]; rfl
  · cases m
    · exact absurd rfl h
    · rw [hm rfl]; rfl

/-- the bytes so far -/
structure PI (v : AV) (o : Nat) (bs : List UInt8) (e : Env) (H : Heap) : Prop where
  e1 : e.get 1 = .v (.imm v)
  e3 : e.get 3 = .v (.ms o bs.length 0 bs.length)
  ho : H.get o = some (.arr false 1 (bs.map byt))
  ro : ¬ o < H.ro

def codeP : ACode := a208.code

theorem put1 (h1 : Φ 186 = some a186) {v : AV} {c : Scr.MC} {o : Nat} {bs : List UInt8} {e : Env} {H : Heap} (hv : CmdA v c) (hb : bs.length ≤ 2 ^ 20) (hi : PI v o bs e H) :
    Pst (evX Φ codeP.R.R.L e H) (Onw fun e' H' => PI v o (bs ++ Scr.plb (Scr.one c.kind) c.a) e' H') fun _ _ _ => False := by
  obtain ⟨ft, fp, rfl, hft, hfp⟩ := hv
  have o1 := one_ok h1 c.kind H
  have hg := hi.ho
  have hro := hi.ro
  have hm : bs.length ≤ 1073741822 := by omega
  cases ho : Scr.one c.kind with
  | false =>
    have o2 : (decide (1 ≤ c.kind) && decide (c.kind ≤ 7)) = false := ho
    rw [o2] at o1
    simp [codeP, a208, ACode.R, ACode.L, evX_seq, evX_ops, evX_cond, evX_skip, opsS, wantedS, opS, opv, Env.av, Env.sl, Env.get, setDst, hi.e1, addrS, part, AV.cells, allAV, o1, Pst, Onw, Scr.plb]
    exact ⟨by simp [Env.get, hi.e1], by simp [Env.get, hi.e3], hg, hro⟩
  | true =>
    have o2 : (decide (1 ≤ c.kind) && decide (c.kind ≤ 7)) = true := ho
    rw [o2] at o1
    simp [codeP, a208, ACode.R, ACode.L, evX_seq, evX_ops, evX_cond, opsS, wantedS, opS, opv, Env.av, Env.sl, Env.get, setDst, hi.e1, hi.e3, addrS, part, AV.cells, allAV, o1, binAV, shr8, u8_wrap, allParts, mklAV, byt, appS, elemsOf, hro, hg, mostLen, hm, Pst, Onw, Scr.plb]
    exact ⟨by simp [Env.get, hi.e1], by simp [Env.get], by rw [put_get]; simp [byt], by rw [put_ro]; exact hro⟩
theorem put2 (h1 : Φ 188 = some a188) {v : AV} {c : Scr.MC} {o : Nat} {bs : List UInt8} {e : Env} {H : Heap} (hv : CmdA v c) (hb : bs.length ≤ 2 ^ 20) (hi : PI v o bs e H) :
    Pst (evX Φ codeP.R.R.R.L e H) (Onw fun e' H' => PI v o (bs ++ Scr.plb (Scr.two c.kind) c.b) e' H') fun _ _ _ => False := by
  obtain ⟨ft, fp, rfl, hft, hfp⟩ := hv
  have o1 := two_ok h1 c.kind H
  have hg := hi.ho
  have hro := hi.ro
  have hm : bs.length ≤ 1073741822 := by omega
  cases ho : Scr.two c.kind with
  | false =>
    have o2 : ((decide (1 ≤ c.kind) && decide (c.kind ≤ 3)) || decide (c.kind = 7)) = false := ho
    rw [o2] at o1
    simp [codeP, a208, ACode.R, ACode.L, evX_seq, evX_ops, evX_cond, evX_skip, opsS, wantedS, opS, opv, Env.av, Env.sl, Env.get, setDst, hi.e1, addrS, part, AV.cells, allAV, o1, Pst, Onw, Scr.plb]
    exact ⟨by simp [Env.get, hi.e1], by simp [Env.get, hi.e3], hg, hro⟩
  | true =>
    have o2 : ((decide (1 ≤ c.kind) && decide (c.kind ≤ 3)) || decide (c.kind = 7)) = true := ho
    rw [o2] at o1
    simp [codeP, a208, ACode.R, ACode.L, evX_seq, evX_ops, evX_cond, opsS, wantedS, opS, opv, Env.av, Env.sl, Env.get, setDst, hi.e1, hi.e3, addrS, part, AV.cells, allAV, o1, binAV, shr8, u8_wrap, allParts, mklAV, byt, appS, elemsOf, hro, hg, mostLen, hm, Pst, Onw, Scr.plb]
    exact ⟨by simp [Env.get, hi.e1], by simp [Env.get], by rw [put_get]; simp [byt], by rw [put_ro]; exact hro⟩

theorem wrap_len {n : Nat} (h : n < 2 ^ 40) : IntKind.wrap .i64 (n : Int) = n := wrap_small (by omega)

def loopP : ACode := codeP.R.R.R.R.L.R.K.R.E.R.T.R.R.K
def roundP : ACode := loopP.P

/-- at a round's head, i pages are written -/
structure QI (o : Nat) (bs : List UInt8) (fp : Option Bool) (ps : List Int) (i : Nat) (e : Env) (H : Heap) : Prop where
  e3 : e.get 3 = .v (.ms o (bs.length + i) 0 (bs.length + i))
  e61 : e.get 61 = .v (lv fp (ints .i64 ps))
  e62 : e.get 62 = .v (.int .i64 ps.length)
  e63 : e.get 63 = .v (.int .i64 i)
  le : i ≤ ps.length
  ho : H.get o = some (.arr false 1 ((bs ++ (ps.take i).map Scr.u8).map byt))
  ro : ¬ o < H.ro

theorem ix_lv {f : Option Bool} {xs : List AV} {i : Nat} {x : AV} (hf : Fo f xs) (hx : xs[i]? = some x) : lv f xs = .list false xs := by
  have : f = some false := Classical.byContradiction fun h => by
    rw [hf h] at hx; simp at hx
  rw [this]; rfl

theorem roundP_end {o : Nat} {bs : List UInt8} {fp : Option Bool} {ps : List Int} {e : Env} {H : Heap} (h : QI o bs fp ps ps.length e H) :
    evX Φ roundP e H = some (.go (.exit 1) ((64, .v (.bool false)) :: e) H) := by
  simp [roundP, loopP, codeP, a208, ACode.R, ACode.L, ACode.K, ACode.E, ACode.T, ACode.P, evX_seq, evX_ops, evX_cond, evX_exit, opsS, wantedS, opS, opv, Env.av, Env.sl, Env.get, setDst, h.e63, h.e62, binAV, cmpI]
theorem roundP_on {o : Nat} {bs : List UInt8} {fp : Option Bool} {ps : List Int} {i : Nat} {e : Env} {H : Heap} (hb : bs.length + ps.length ≤ 2 ^ 21) (hfp : Fo fp (ints .i64 ps)) (hi : i < ps.length) (h : QI o bs fp ps i e H) :
    Pst (evX Φ roundP e H) (Onw fun e' H' => QI o bs fp ps (i + 1) (keepS [3, 61, 62, 63] e') H') fun _ _ _ => False := by
  have hll : ((i : Int) < (ps.length : Int)) := by omega
  have hx : (ints .i64 ps)[i]? = some (.int .i64 ps[i]) := by simp [ints, List.getElem?_eq_getElem hi]
  have hl := ix_lv hfp hx
  have w2 : IntKind.wrap .i64 ((i : Int) + 1) = ((i + 1 : Nat) : Int) := by have := wrap_small (n := i + 1) (by omega); push_cast at this ⊢; exact this
  have e61 := h.e61
  rw [hl] at e61
  have hro := h.ro
  obtain ⟨P, hP⟩ : ∃ P, P = (bs ++ (ps.take i).map Scr.u8).map byt := ⟨_, rfl⟩
  have hil : P.length = bs.length + i := by rw [hP]; simp; omega
  have hg := h.ho
  rw [← hP] at hg
  have hmo : bs.length + i ≤ 1073741823 := by omega
  have htk : (bs ++ (ps.take (i + 1)).map Scr.u8).map byt = P ++ [.int .u8 (Scr.u8 ps[i]).toNat] := by
    rw [hP, List.take_succ_eq_append_getElem hi]; simp only [List.map_append, List.append_assoc]; rfl
  have hbu := u8_wrap ps[i]
  unfold byt at hbu
  simp [roundP, loopP, codeP, a208, ACode.R, ACode.L, ACode.K, ACode.E, ACode.T, ACode.P, evX_seq, evX_ops, evX_cond, evX_skip, evX_block, opsS, wantedS, opS, opv, Env.av, Env.sl, Env.get, setDst, h.e63, h.e62, e61, h.e3, binAV, cmpI, hll, hx, AV.cells, ldS, part, hbu, allParts, mklAV, appS, elemsOf, mostLen, hro, hg, hil, hmo, arI, w2, Pst, Onw]
  refine ⟨by simp [keepS, Env.get]; omega, by simp [keepS, Env.get, h.e61], by simp [keepS, Env.get, h.e62], by simp [keepS, Env.get], by omega, by rw [put_get, htk], by rw [put_ro]; exact hro⟩

theorem loopP_ok {o : Nat} {bs : List UInt8} {fp : Option Bool} {ps : List Int} {e : Env} {H : Heap} (hb : bs.length + ps.length ≤ 2 ^ 21) (hfp : Fo fp (ints .i64 ps)) (h : QI o bs fp ps 0 (keepS [3, 61, 62, 63] e) H) :
    Pst (evX Φ loopP e H) (fun x e' H' => x = .exit 1 ∧ e'.get 3 = .v (.ms o (bs ++ ps.map Scr.u8).length 0 (bs ++ ps.map Scr.u8).length) ∧ H'.get o = some (.arr false 1 ((bs ++ ps.map Scr.u8).map byt)) ∧ ¬ o < H'.ro) fun _ _ _ => False := by
  refine pst_loop (k := [3, 61, 62, 63]) (a := roundP) (fun n e H => ∃ i, n = ps.length - i ∧ QI o bs fp ps i e H) (fun n e H hi => ?_) _ e H ⟨0, rfl, h⟩
  obtain ⟨i, rfl, hi⟩ := hi
  by_cases hl : i < ps.length
  · exact (roundP_on hb hfp hl hi).mono (fun x e' H' hq => by
      cases x with
      | nrm => exact ⟨_, by omega, i + 1, rfl, hq⟩
      | _ => exact hq.elim) (fun _ _ _ h => h)
  · have : i = ps.length := by have := hi.le; omega
    subst this
    rw [roundP_end hi]
    have h1 := hi.e3; have h2 := hi.ho
    rw [List.take_of_length_le (Nat.le_refl _)] at h2
    refine ⟨rfl, ?_, h2, hi.ro⟩
    simp [Env.get, h1]

/-- the last part: texts, pages -/
theorem put3 {v : AV} {c : Scr.MC} {o : Nat} {bs : List UInt8} {e : Env} {H : Heap} (hv : CmdA v c) (hb : bs.length ≤ 2 ^ 19) (ht : c.text.length ≤ 2 ^ 19) (hp : c.pages.length ≤ 2 ^ 19) (hi : PI v o bs e H) :
    Pst (evX Φ codeP.R.R.R.R.L e H) (Onw fun e' H' => e'.get 3 = .v (.ms o (bs ++ Scr.lsb c).length 0 (bs ++ Scr.lsb c).length) ∧ H'.get o = some (.arr false 1 ((bs ++ Scr.lsb c).map byt)) ∧ ¬ o < H'.ro) fun _ _ _ => False := by
  obtain ⟨ft, fp, rfl, hft, hfp⟩ := hv
  have hg := hi.ho
  have hro := hi.ro
  have hm : bs.length ≤ 1073741823 := by omega
  have hm2 : bs.length + 1 + c.text.length ≤ 1073741824 := by omega
  by_cases h7 : c.kind = 7
  · have hbu := u8_wrap (c.text.length : Int)
    have hel := elemsOf_lv (H := H.put o (some (.arr false 1 (bs.map byt ++ [byt (Scr.u8 (c.text.length : Int))])))) hft (byt_cells c.text)
    simp [codeP, a208, ACode.R, ACode.L, evX_seq, evX_ops, evX_dops, evX_cond, evX_block, opsS, wantedS, opS, opv, Env.av, Env.sl, Env.get, setDst, hi.e1, hi.e3, addrS, part, lv_cells, int_cells, agg_cells, lenAV_lv hft, i64, binAV, cmpI, h7, hbu, allParts, mklAV, byt_cell, appS, el1, hro, hg, mostLen, hm, hel, put_get, put_ro, put_put, hm2, Pst, Onw, Scr.lsb]
    omega
  · have h7b : (c.kind == 7) = false := by simpa using h7
    by_cases h9 : c.kind = 9
    · have hk : codeP.R.R.R.R.L = .seq codeP.R.R.R.R.L.L (.block 0 (.seq codeP.R.R.R.R.L.R.K.L (.cond (.t 39) codeP.R.R.R.R.L.R.K.R.T (.seq codeP.R.R.R.R.L.R.K.R.E.L (.cond (.t 51) (.seq codeP.R.R.R.R.L.R.K.R.E.R.T.L (.seq codeP.R.R.R.R.L.R.K.R.E.R.T.R.L (.block 1 loopP))) .skip))))) := rfl
      have hbu := u8_wrap (c.pages.length : Int)
      have hlen : (ints .i64 c.pages).length = c.pages.length := by simp [ints]
      have hlv := lenAV_lv hfp
      rw [hlen] at hlv
      rw [hk]
      apply pst_seq
      simp [codeP, a208, ACode.R, ACode.L, evX_ops, opsS, wantedS, opS, opv, Env.sl, Env.get, setDst, hi.e1, addrS, part, int_cells, agg_cells, pst_go, Nx]
      apply pst_block
      apply pst_seq
      simp [ACode.K, evX_ops, opsS, wantedS, opS, opv, Env.av, Env.sl, Env.get, setDst, binAV, cmpI, h9, pst_go, Nx]
      apply pst_cond (t := false) (by simp [Env.av, Env.sl, Env.get])
      simp only
      apply pst_seq
      simp [ACode.E, evX_ops, opsS, wantedS, opS, opv, Env.av, Env.sl, Env.get, setDst, binAV, cmpI, pst_go, Nx]
      apply pst_cond (t := true) (by simp [Env.av, Env.sl, Env.get])
      simp only
      apply pst_seq
      simp [ACode.T, evX_ops, opsS, wantedS, opS, opv, Env.av, Env.sl, Env.get, setDst, hi.e1, hi.e3, addrS, part, lv_cells, int_cells, agg_cells, hlv, i64, hbu, allParts, mklAV, byt_cell, appS, el1, hro, hg, mostLen, hm, pst_go, Nx]
      apply pst_seq
      simp [evX_ops, opsS, wantedS, opS, opv, Env.av, Env.sl, Env.get, setDst, hi.e1, addrS, part, lv_cells, agg_cells, hlv, i64, pst_go, Nx]
      apply pst_block
      refine (loopP_ok (o := o) (bs := bs ++ [Scr.u8 c.pages.length]) (ps := c.pages) (fp := fp) (by simp; omega) hfp ⟨by simp [keepS, Env.get], by simp [keepS, Env.get], by simp [keepS, Env.get], by simp [keepS, Env.get], by omega, ?_, ?_⟩).mono (fun q e' H' ⟨hq, h1, h2, h3⟩ => ?_) (fun _ _ _ h => h)
      · rw [put_get]; simp
      · rw [put_ro]; exact hro
      · subst hq
        have e9 : Scr.lsb c = Scr.u8 c.pages.length :: c.pages.map Scr.u8 := by unfold Scr.lsb; rw [if_neg h7, if_pos h9]
        simp only [if_true]
        rw [List.append_assoc, List.singleton_append, ← e9] at h1 h2
        rw [List.length_append] at h1
        rw [List.map_append] at h2
        exact ⟨h1, h2, by omega⟩
    · have h9b : (c.kind == 9) = false := by simpa using h9
      have e0 : Scr.lsb c = [] := by unfold Scr.lsb; rw [if_neg h7, if_neg h9]
      simp [codeP, a208, ACode.R, ACode.L, evX_seq, evX_ops, evX_cond, evX_skip, evX_block, opsS, wantedS, opS, opv, Env.av, Env.sl, Env.get, setDst, hi.e1, hi.e3, addrS, part, int_cells, agg_cells, binAV, cmpI, h7b, h9b, Pst, Onw, e0]
      exact ⟨hg, by omega⟩

def cP1 : ACode := codeP.L
def cP2 : ACode := codeP.R.L
def cP3 : ACode := codeP.R.R.L
def cP4 : ACode := codeP.R.R.R.L
def cP5 : ACode := codeP.R.R.R.R.L
def cP6 : ACode := codeP.R.R.R.R.R
theorem put_code : codeP = .seq cP1 (.seq cP2 (.seq cP3 (.seq cP4 (.seq cP5 cP6)))) := rfl

/-- what put answers -/
theorem put_ok (h1 : Φ 186 = some a186) (h2 : Φ 188 = some a188) (h : Φ 208 = some a208) {v : AV} {c : Scr.MC} {H : Heap} (hv : CmdA v c) (ht : c.text.length ≤ 2 ^ 19) (hp : c.pages.length ≤ 2 ^ 19) :
    evC Φ 208 [v] H = some (.ret (.list false ((Scr.put c).map byt)) H) := by
  have key : Pst (evX Φ codeP (initEnv 0 [v]) (bodyH a208 H)) (fun x e' _ => x = .ret ∧ e'.get 2 = .v (.list false ((Scr.put c).map byt))) fun _ _ _ => False := by
    obtain ⟨ft, fp, rfl, hft, hfp⟩ := hv
    rw [put_code]
    apply pst_seq
    simp [cP1, codeP, a208, ACode.L, evX_ops, opsS, wantedS, opS, opv, Env.av, Env.sl, Env.get, setDst, initEnv, bodyH, agg_cells, pst_go, Nx]
    apply pst_seq
    simp [cP2, codeP, a208, ACode.R, ACode.L, evX_ops, opsS, wantedS, opS, opv, Env.av, Env.sl, Env.get, setDst, addrS, part, int_cells, agg_cells, binAV, arI, u8_wrap2, allParts, mklAV, byt_cell, pst_go, Nx]
    apply pst_seq
    have hv : CmdA (.agg [.int .i64 c.kind, .int .i64 c.a, .int .i64 c.b, lv ft (c.text.map byt), lv fp (ints .i64 c.pages)]) c := ⟨ft, fp, rfl, hft, hfp⟩
    refine (put1 (o := H.next) (bs := [Scr.u8 (c.kind - 1)]) h1 hv (by simp) ⟨by simp [Env.get], by simp [Env.get], ?_, ?_⟩).mono (fun x e' H' hq => ?_) (fun _ _ _ h => h)
    · exact new_get (⟨H.next, H.next, H.get⟩ : Heap) _
    · show ¬ H.next < H.next
      omega
    cases x <;> try exact hq.elim
    have l1 : ([Scr.u8 (c.kind - 1)] ++ Scr.plb (Scr.one c.kind) c.a).length ≤ 3 := by
      unfold Scr.plb; split <;> simp
    apply pst_seq
    refine (put2 h2 hv (by omega) hq).mono (fun x e' H' hq => ?_) (fun _ _ _ h => h)
    cases x <;> try exact hq.elim
    have l2 : ([Scr.u8 (c.kind - 1)] ++ Scr.plb (Scr.one c.kind) c.a ++ Scr.plb (Scr.two c.kind) c.b).length ≤ 5 := by
      rw [List.length_append]
      have : (Scr.plb (Scr.two c.kind) c.b).length ≤ 2 := by unfold Scr.plb; split <;> simp
      omega
    apply pst_seq
    refine (put3 hv (by omega) ht hp hq).mono (fun x e' H' hq => ?_) (fun _ _ _ h => h)
    cases x <;> try exact hq.elim
    obtain ⟨g1, g2, g3⟩ := hq
    have hput : [Scr.u8 (c.kind - 1)] ++ Scr.plb (Scr.one c.kind) c.a ++ Scr.plb (Scr.two c.kind) c.b ++ Scr.lsb c = Scr.put c := by simp [Scr.put]
    rw [hput] at g1 g2
    have hlen : ((Scr.put c).map byt).length = (Scr.put c).length := by simp
    show Pst (evX Φ cP6 e' H') _ _
    simp [cP6, codeP, a208, ACode.R, evX_seq, evX_ops, evX_ret, opsS, wantedS, opS, opv, Env.sl, Env.get, setDst, g1, fzV, g3, g2, Pst]
    rw [← hlen, List.take_length]
  rw [evC_eq h rfl]
  cases ho : evX Φ a208.code (initEnv 0 [v]) (bodyH a208 H) with
  | none => unfold codeP at key; rw [ho] at key; exact key.elim
  | some o =>
    unfold codeP at key; rw [ho] at key
    rcases o with ⟨x, e, H'⟩ | ⟨w, e, H'⟩
    · obtain ⟨rfl, g1⟩ := key
      have hr : a208.results = [.tmp 2] := rfl
      have hp : a208.pure = true := rfl
      simp [finS, hr, resOf, resS, g1, hp, AV.under, under_byt]
    · exact key.elim
end Ey.Sc
