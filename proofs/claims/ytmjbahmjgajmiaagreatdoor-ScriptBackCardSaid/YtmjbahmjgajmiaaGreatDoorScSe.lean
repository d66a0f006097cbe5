/- Encode: by hand. -/
import Derived.Test.YtmjbahmjgajmiaaGreatDoorScSs
set_option maxRecDepth 100000
namespace Ey.Sc
open Go (IntKind)
variable {Φ : Nat → Option AFn}

/-- the commands' functions -/
structure Fns (Φ : Nat → Option AFn) : Prop where
  clone : Φ 183 = some a183
  take : Φ 185 = some a185
  one : Φ 186 = some a186
  place : Φ 187 = some a187
  two : Φ 188 = some a188
  list : Φ 189 = some a189
  cmd : Φ 190 = some a190
  beq : Φ 194 = some a194
  decode : Φ 198 = some a198
  encode : Φ 199 = some a199
  put : Φ 208 = some a208
  same : Φ 209 = some a209
  ieq : Φ 211 = some a211

/-- bytes as a result -/
def BytesF (r : AV) (b : List UInt8) : Prop := ∃ nl : Bool, r = .list nl (b.map byt) ∧ (nl = true → b = [])

def codeN : ACode := a199.code
def cN1 : ACode := codeN.L
def cN2 : ACode := codeN.R.L
def cN3 : ACode := codeN.R.R.L.L
def loopN : ACode := codeN.R.R.L.R.K
def roundN : ACode := loopN.P
def cNR : ACode := codeN.R.R
def cN4 : ACode := codeN.R.R.R
theorem encode_code : codeN = .seq cN1 (.seq cN2 cNR) := rfl
theorem cNR_eq : cNR = .seq (.seq cN3 (.block 0 loopN)) cN4 := rfl

/-- at a round's head -/
structure NI (R : Nat) (f : Option Bool) (xs : List AV) (cs : List Scr.MC) (i : Nat) (e : Env) (H : Heap) : Prop where
  e8 : e.get 8 = .v (lv f xs)
  e9 : e.get 9 = .v (.int .i64 xs.length)
  e10 : e.get 10 = .v (.int .i64 i)
  e5 : e.get 5 = .no
  le : i ≤ xs.length
  ro : H.ro = R
  rn : R ≤ H.next
  fresh : Fresh H
  out : (Scr.enc (cs.take i) = [] ∧ e.get 3 = .v (.list true [])) ∨ ∃ o, e.get 3 = .v (.ms o (Scr.enc (cs.take i)).length 0 (Scr.enc (cs.take i)).length) ∧ H.get o = some (.arr false 1 ((Scr.enc (cs.take i)).map byt)) ∧ ¬ o < H.ro ∧ o < H.next

theorem roundN_end {R : Nat} {f : Option Bool} {xs : List AV} {cs : List Scr.MC} {e : Env} {H : Heap} (h : NI R f xs cs xs.length e H) : evX Φ roundN e H = some (.go (.exit 0) ((11, .v (.bool false)) :: e) H) := by
  simp [roundN, loopN, codeN, a199, ACode.R, ACode.L, ACode.K, ACode.P, evX_seq, evX_ops, evX_cond, evX_exit, opsS, wantedS, opS, opv, Env.av, Env.sl, Env.get, setDst, h.e10, h.e9, binAV, cmpI]

def small (c : Scr.MC) : Prop := c.text.length ≤ 2 ^ 19 ∧ c.pages.length ≤ 2 ^ 19

theorem enc_take {cs : List Scr.MC} {i : Nat} {c : Scr.MC} (h : cs[i]? = some c) : Scr.enc (cs.take (i + 1)) = Scr.enc (cs.take i) ++ Scr.enc1 c := by
  obtain ⟨hi, rfl⟩ := List.getElem?_eq_some_iff.1 h
  unfold Scr.enc
  rw [List.take_succ_eq_append_getElem hi, List.flatMap_append]
  simp only [List.flatMap_cons, List.flatMap_nil, List.append_nil]

theorem enc1_len (c : Scr.MC) : (Scr.enc1 c).length ≤ 261 := by
  unfold Scr.enc1
  split
  · simp
  · rename_i h
    split
    · rw [Scr.put_len]
      have h1 : ∀ (w : Bool) (a : Int), (Scr.plb w a).length ≤ 2 := fun w a => by unfold Scr.plb; split <;> simp
      have h2 : (Scr.lsb c).length ≤ 256 := by
        unfold Scr.lsb
        split
        · simp; omega
        · split
          · simp; omega
          · simp
      have := h1 (Scr.one c.kind) c.a
      have := h1 (Scr.two c.kind) c.b
      omega
    · simp
theorem enc_len (cs : List Scr.MC) : (Scr.enc cs).length ≤ 261 * cs.length := by
  induction cs with
  | nil => simp [Scr.enc]
  | cons c cs ih =>
    have := enc1_len c
    have e : Scr.enc (c :: cs) = Scr.enc1 c ++ Scr.enc cs := rfl
    rw [e, List.length_append, List.length_cons]
    omega

theorem roundN_on (F : Fns Φ) {R : Nat} {f : Option Bool} {xs : List AV} {cs : List Scr.MC} (hf : Fo f xs) (ha : All2 CmdA xs cs) (hs : ∀ c ∈ cs, small c) (hn : xs.length ≤ 2 ^ 20) {i : Nat} (hi : i < xs.length) {e : Env} {H : Heap} (h : NI R f xs cs i e H) :
    Pst (evX Φ roundN e H) (Onw fun e' H' => NI R f xs cs (i + 1) (keepS [3, 8, 9, 10, 30, 31, 32, 33, 34] e') H') fun _ _ _ => False := by
  have hll : ((i : Int) < (xs.length : Int)) := by omega
  have hlen := ha.length
  have hic : i < cs.length := by omega
  have hx := List.getElem?_eq_getElem hi
  have hc := List.getElem?_eq_getElem hic
  have hv := ha.get hx hc
  have hsm := hs _ (List.getElem_mem hic)
  have hen := enc_take hc
  generalize cs[i] = c at hc hv hsm hen
  generalize xs[i] = v at hx hv
  have hA := hv
  obtain ⟨ft, fp, rfl, hft, hfp⟩ := hv
  have e8 := h.e8
  rw [ix_lv hf hx] at e8
  have w2 : IntKind.wrap .i64 ((i : Int) + 1) = ((i + 1 : Nat) : Int) := by have := wrap_small (n := i + 1) (by omega); push_cast at this ⊢; exact this
  have l1 := lenAV_lv hft
  have l2 := lenAV_lv hfp
  have i1 : (c.text.map byt).length = c.text.length := by simp
  have i2 : (ints .i64 c.pages).length = c.pages.length := by simp [ints]
  rw [i1] at l1; rw [i2] at l2
  have stay : Scr.enc1 c = [] → ∀ e' : Env, e'.get 8 = e.get 8 → e'.get 9 = e.get 9 → e'.get 3 = e.get 3 → e'.get 10 = .v (.int .i64 ((i + 1 : Nat) : Int)) → NI R f xs cs (i + 1) (keepS [3, 8, 9, 10, 30, 31, 32, 33, 34] e') H := by
    intro h0 e' g8 g9 g3 g10
    rw [h0, List.append_nil] at hen
    refine ⟨by simp [keepS, Env.get, g8, h.e8], by simp [keepS, Env.get, g9, h.e9], by simp [keepS, Env.get, g10], by simp [keepS, Env.get], by omega, h.ro, h.rn, h.fresh, ?_⟩
    rw [hen]
    rcases h.out with ⟨o1, o2⟩ | ⟨o, o1, o2, o3, o4⟩
    · exact .inl ⟨o1, by simp [keepS, Env.get, g3, o2]⟩
    · exact .inr ⟨o, by simp [keepS, Env.get, g3, o1], o2, o3, o4⟩
  by_cases hbig : 255 < max c.text.length c.pages.length
  · have h0 : Scr.enc1 c = [] := by unfold Scr.enc1; rw [if_pos hbig]
    have hgt : (255 : Int) < max (c.text.length : Int) (c.pages.length : Int) := by omega
    simp [roundN, loopN, codeN, a199, ACode.R, ACode.L, ACode.K, ACode.P, evX_seq, evX_ops, evX_cond, evX_skip, evX_exit, evX_block, opsS, wantedS, opS, opv, Env.av, Env.sl, Env.get, setDst, h.e10, h.e9, h.e5, e8, binAV, cmpI, hll, hx, agg_cells, ldS, part, stS, putAt, addrS, l1, l2, i64, hgt, arI, w2, Pst, Onw]
    exact stay h0 _ (by simp [Env.get]) (by simp [Env.get]) (by simp [Env.get]) (by simp [Env.get])
  · have hgt : ¬ (255 : Int) < max (c.text.length : Int) (c.pages.length : Int) := by omega
    have hpl : (Scr.put c).length ≤ 2 ^ 20 := by
      rw [Scr.put_len]
      have h1 : ∀ (w : Bool) (a : Int), (Scr.plb w a).length ≤ 2 := fun w a => by unfold Scr.plb; split <;> simp
      have h2 : (Scr.lsb c).length ≤ 256 := by
        unfold Scr.lsb
        split
        · simp; omega
        · split
          · simp; omega
          · simp
      have := h1 (Scr.one c.kind) c.a
      have := h1 (Scr.two c.kind) c.b
      omega
    have ep := put_ok F.one F.two F.put (H := H) hA hsm.1 hsm.2
    obtain ⟨r, ed, nl, zs, rfl, hnl, hz⟩ := decode_ok F.clone F.take F.one F.place F.two F.list F.cmd F.decode (f := some false) (b := Scr.put c) (H := H) hpl (fo_false _) h.fresh
    have ed' : evC Φ 198 [.list false ((Scr.put c).map byt)] H = some (.ret (.list nl zs) H) := ed
    by_cases h1 : zs.length = 1
    · obtain ⟨z, rfl⟩ := List.length_eq_one_iff.1 h1
      have hdl := hz.length
      obtain ⟨c', hc'⟩ := List.length_eq_one_iff.1 (hdl.symm.trans h1)
      rw [hc'] at hz
      have hzc : CmdF z c' := hz.get (i := 0) rfl rfl
      have hz5 : z.cells.length = 5 := by
        obtain ⟨t, p, rfl, _⟩ := hzc; rfl
      have hzp : part 5 true z.cells 0 = some z := by
        obtain ⟨t, p, rfl, _⟩ := hzc; rfl
      have hcp : c'.pages.length ≤ 2 ^ 40 := by
        have := (Scr.dec_all (b := Scr.put c) (c := c') (by rw [hc']; simp)).pages
        split at this
        · omega
        · rw [this]; simp
      have ln : lenAV (.list nl [z]) = some 1 := rfl
      have hzp0 : AV.agg (z.cells.take 5) = z := by
        obtain ⟨t, p, rfl, _⟩ := hzc; rfl
      have es := same_ok F.beq F.ieq F.same (H := H) (cmdA_of hzc) hA hcp
      by_cases hcc : c' = c
      · subst hcc
        have h0 : Scr.enc1 c' = Scr.put c' := by unfold Scr.enc1; rw [if_neg hbig, if_pos hc']
        simp only [decide_true] at es
        have hpne : (Scr.put c').length ≠ 0 := by rw [Scr.put_len]; omega
        have hpe : ((Scr.put c').map byt).isEmpty = false := by
          cases hh : (Scr.put c').map byt with
          | nil => rw [List.map_eq_nil_iff] at hh; rw [hh] at hpne; simp at hpne
          | cons _ _ => rfl
        have hel : ∀ H : Heap, elemsOf H 1 (.list false ((Scr.put c').map byt)) = some ((Scr.put c').map byt) := fun H => elemsOf_lv (f := some false) (fo_false _) (byt_cells _)
        obtain ⟨P, hP⟩ : ∃ P, P = (Scr.put c').map byt := ⟨_, rfl⟩
        have hPl : P.length = (Scr.put c').length := by rw [hP]; simp
        simp only [← hP] at ep ed' hpe hel
        have hpl' : P.length ≤ 1048576 := by omega
        have hpl2 : P.length ≤ 1073741824 := by omega
        rcases h.out with ⟨o1, o2⟩ | ⟨o, o1, o2, o3, o4⟩
        · simp [roundN, loopN, codeN, a199, ACode.R, ACode.L, ACode.K, ACode.P, evX_seq, evX_ops, evX_dops, evX_cond, evX_skip, evX_block, opsS, wantedS, opS, opv, Env.av, Env.sl, Env.get, setDst, h.e10, h.e9, h.e5, e8, o2, binAV, cmpI, hll, hx, agg_cells, ldS, part, stS, putAt, addrS, l1, l2, i64, hgt, allAV, ep, ed', ln, hz5, hzp0, es, appS, hel, mostLen, hpl2, hpe, arI, w2, Pst, Onw]
          refine ⟨by simp [keepS, Env.get, h.e8], by simp [keepS, Env.get, h.e9], by simp [keepS, Env.get], by simp [keepS, Env.get], by omega, (new_ro _ _).trans h.ro, by rw [new_next]; have := h.rn; omega, fun j hj => ?_, .inr ⟨H.next, ?_, ?_, ?_, ?_⟩⟩
          · rw [new_next] at hj
            exact (new_ne _ _ (by omega)).trans (h.fresh j (by omega))
          · rw [hen, o1, List.nil_append, h0, ← hPl]; simp [keepS, Env.get]
          · rw [new_get, hen, o1, List.nil_append, h0, hP]
          · rw [new_ro, h.ro]; have := h.rn; omega
          · rw [new_next]; omega
        · obtain ⟨Q, hQ⟩ : ∃ Q, Q = (Scr.enc (cs.take i)).map byt := ⟨_, rfl⟩
          have hQl : Q.length = (Scr.enc (cs.take i)).length := by rw [hQ]; simp
          rw [← hQl] at o1
          rw [← hQ] at o2
          have hel2 := enc_len (cs.take i)
          have htl : (cs.take i).length ≤ 2 ^ 20 := by rw [List.length_take]; omega
          have hpl3 : Q.length + P.length ≤ 1073741824 := by
            have := Nat.mul_le_mul_left 261 htl
            omega
          simp [roundN, loopN, codeN, a199, ACode.R, ACode.L, ACode.K, ACode.P, evX_seq, evX_ops, evX_dops, evX_cond, evX_skip, evX_block, opsS, wantedS, opS, opv, Env.av, Env.sl, Env.get, setDst, h.e10, h.e9, h.e5, e8, o1, binAV, cmpI, hll, hx, agg_cells, ldS, part, stS, putAt, addrS, l1, l2, i64, hgt, allAV, ep, ed', ln, hz5, hzp0, es, appS, hel, o3, o2, mostLen, hpl3, arI, w2, Pst, Onw]
          refine ⟨by simp [keepS, Env.get, h.e8], by simp [keepS, Env.get, h.e9], by simp [keepS, Env.get], by simp [keepS, Env.get], by omega, h.ro, h.rn, fun j hj => ?_, .inr ⟨o, ?_, ?_, ?_, ?_⟩⟩
          · rw [put_next] at hj
            exact (put_ne _ _ (by omega)).trans (h.fresh j hj)
          · rw [hen, List.length_append, h0, ← hPl, ← hQl]; simp [keepS, Env.get]
          · rw [put_get, hen, h0, List.map_append, ← hQ, ← hP]
          · exact o3
          · exact o4
      · have h0 : Scr.enc1 c = [] := by
          unfold Scr.enc1
          rw [if_neg hbig, if_neg]
          rw [hc']; simpa using hcc
        have es' : decide (c' = c) = false := by simpa using hcc
        rw [es'] at es
        simp [roundN, loopN, codeN, a199, ACode.R, ACode.L, ACode.K, ACode.P, evX_seq, evX_ops, evX_dops, evX_cond, evX_skip, evX_block, opsS, wantedS, opS, opv, Env.av, Env.sl, Env.get, setDst, h.e10, h.e9, h.e5, e8, binAV, cmpI, hll, hx, agg_cells, ldS, part, stS, putAt, addrS, l1, l2, i64, hgt, allAV, ep, ed', ln, hz5, hzp0, es, arI, w2, Pst, Onw]
        exact stay h0 _ (by simp [Env.get]) (by simp [Env.get]) (by simp [Env.get]) (by simp [Env.get])
    · have h0 : Scr.enc1 c = [] := by
        unfold Scr.enc1
        rw [if_neg hbig, if_neg]
        intro hd
        have := hz.length
        rw [hd] at this
        exact h1 this
      have ln : lenAV (.list nl zs) = some zs.length := rfl
      have h1b : ((zs.length : Int) == 1) = false := by rw [beq_eq_false_iff_ne]; omega
      simp [roundN, loopN, codeN, a199, ACode.R, ACode.L, ACode.K, ACode.P, evX_seq, evX_ops, evX_dops, evX_cond, evX_skip, evX_block, opsS, wantedS, opS, opv, Env.av, Env.sl, Env.get, setDst, h.e10, h.e9, h.e5, e8, binAV, cmpI, hll, hx, agg_cells, ldS, part, stS, putAt, addrS, l1, l2, i64, hgt, allAV, ep, ed', ln, h1b, arI, w2, Pst, Onw]
      exact stay h0 _ (by simp [Env.get]) (by simp [Env.get]) (by simp [Env.get]) (by simp [Env.get])

/-- what Encode answers -/
theorem encode_ok (F : Fns Φ) {f : Option Bool} {xs : List AV} {cs : List Scr.MC} {H : Heap} (hf : Fo f xs) (ha : All2 CmdA xs cs) (hs : ∀ c ∈ cs, small c) (hn : xs.length ≤ 2 ^ 20) (hfr : Fresh H) :
    ∃ r, evC Φ 199 [lv f xs] H = some (.ret r H) ∧ BytesF r (Scr.enc cs) := by
  have l1 := lenAV_lv hf
  have hlen := ha.length
  have key : Pst (evX Φ codeN (initEnv 0 [lv f xs]) (bodyH a199 H)) (fun x e' _ => x = .ret ∧ ∃ r, e'.get 2 = .v r ∧ BytesF r (Scr.enc cs)) fun _ _ _ => False := by
    rw [encode_code]
    apply pst_seq
    simp [cN1, codeN, a199, ACode.L, evX_ops, opsS, wantedS, opS, opv, Env.sl, setDst, initEnv, pst_go, Nx]
    apply pst_seq
    simp [cN2, codeN, a199, ACode.L, ACode.R, evX_ops, opsS, wantedS, opS, opv, Env.sl, setDst, pst_go, Nx]
    rw [cNR_eq]
    apply pst_seq
    apply pst_seq
    simp [cN3, codeN, a199, ACode.L, ACode.R, evX_ops, opsS, wantedS, opS, opv, Env.av, Env.sl, Env.get, setDst, l1, i64, pst_go, Nx]
    apply pst_block
    refine (pst_loop (k := [3, 8, 9, 10, 30, 31, 32, 33, 34]) (a := roundN) (Q := fun x e' H' => x = .exit 0 ∧ NI H.next f xs cs xs.length e' H') (R := fun _ _ _ => False) (fun n e K => ∃ i, n = xs.length - i ∧ NI H.next f xs cs i e K) (fun n e K hi => ?_) _ _ _ ⟨0, rfl, ?_⟩).mono (fun x e' H' hq => ?_) (fun _ _ _ h => h)
    · obtain ⟨i, rfl, hi⟩ := hi
      by_cases hl : i < xs.length
      · refine (roundN_on F hf ha hs hn hl hi).mono (fun x e' H' hq => ?_) (fun _ _ _ h => h)
        cases x <;> try exact hq.elim
        exact ⟨_, by omega, i + 1, rfl, hq⟩
      · have : i = xs.length := by have := hi.le; omega
        subst this
        rw [roundN_end hi]
        exact ⟨rfl, by simp [Env.get, hi.e8], by simp [Env.get, hi.e9], by simp [Env.get, hi.e10], by simp [Env.get, hi.e5], hi.le, hi.ro, hi.rn, hi.fresh, by simpa [Env.get] using hi.out⟩
    · refine ⟨by simp [keepS, Env.get], by simp [keepS, Env.get], by simp [keepS, Env.get], by simp [keepS, Env.get], by omega, rfl, Nat.le_refl _, ?_, .inl ⟨by simp [Scr.enc], by simp [keepS, Env.get]⟩⟩
      exact hfr
    · obtain ⟨rfl, hi⟩ := hq
      have htk : cs.take xs.length = cs := List.take_of_length_le (by omega)
      have ho := hi.out
      rw [htk] at ho
      show Pst (evX Φ cN4 e' H') _ _
      rcases ho with ⟨o1, o2⟩ | ⟨o, o1, o2, o3, o4⟩
      · simp [cN4, codeN, a199, ACode.R, evX_seq, evX_ops, evX_ret, opsS, wantedS, opS, opv, Env.sl, Env.get, setDst, o2, fzV, Pst]
        exact ⟨true, by rw [o1]; rfl, fun _ => o1⟩
      · have hl : ((Scr.enc cs).map byt).length = (Scr.enc cs).length := by simp
        simp [cN4, codeN, a199, ACode.R, evX_seq, evX_ops, evX_ret, opsS, wantedS, opS, opv, Env.sl, Env.get, setDst, o1, fzV, o3, o2, Pst]
        exact ⟨false, by rw [← hl, List.take_length], fun h => by cases h⟩
  rw [evC_eq F.encode rfl]
  unfold codeN at key
  cases ho : evX Φ a199.code (initEnv 0 [lv f xs]) (bodyH a199 H) with
  | none => rw [ho] at key; exact key.elim
  | some o =>
    rw [ho] at key
    rcases o with ⟨x, e, H'⟩ | ⟨w, e, H'⟩
    · obtain ⟨rfl, r, g1, g2⟩ := key
      refine ⟨r, ?_, g2⟩
      have hr : a199.results = [.tmp 2] := rfl
      have hp : a199.pure = true := rfl
      obtain ⟨nl, rfl, _⟩ := g2
      simp [finS, hr, resOf, resS, g1, hp, AV.under, under_byt]
    · exact key.elim
end Ey.Sc
