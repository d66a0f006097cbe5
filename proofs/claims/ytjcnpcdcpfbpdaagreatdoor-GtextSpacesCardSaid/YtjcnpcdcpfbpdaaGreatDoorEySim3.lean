/- Regions and code: the model's and ours. -/
import Derived.Test.YtjcnpcdcpfbpdaaGreatDoorEySim2
namespace Ey
open Go Go.RowKit

def exOf : Ex → Exit
  | .nrm => .normal
  | .exit i => .exit i
  | .ret => .ret

/-- how code ends: the model's end and ours -/
def OutR (C : Cx) (g : Gh) (own : Own) (B : Nat) (H : Heap) (w : World) (n : Nat) (L : List Nat) (df : List Deferred) : Out → Exit → Act → World → Prop
  | .go x e' H', ex, a', w' => ex = exOf x ∧ a'.defers = df ∧ ∃ g' own', Ext g own B H w g' own' H' w' ∧ St C g' own' B H' w' ∧ Fr C g' own' w' e' a'.tmps n L
  | .pan v e' H', ex, a', w' => ∃ pv, ex = .panic [{ v := pv, recovered := false }] ∧ a'.defers = df ∧ ∃ g' own', Ext g own B H w g' own' H' w' ∧ St C g' own' B H' w' ∧ Fr C g' own' w' e' a'.tmps n L ∧ VR C g' v pv

def guardOK (ops : Array Oper) (n : Nat) (L : List Nat) (d : Option Nat) : Option (Nat × Bool) → Option (Nat × Bool) → Bool
  | none, none => true
  | some (j, w), some (s, w') => w == w' && (ops[j]?).bind (·.dst) == some s && decide (s < n) && dstOKb n L d
  | _, _ => false

/-- a slice that is made and at once made again one of the same type: two of the model's operations -/
def chkPair (C : Cx) (n : Nat) (L : List Nat) (ops : Array Oper) (os : List Oper) (i j : AInstr) : Bool :=
  match os, i.dst, j.dst, i.op, j.op with
  | o :: p :: _, some d, some k, .mkl z m qs, .cvl (.t d') => match o.op, p.op with
    | .buildSlice t m' ps, .convert s s' (.tmp d'') => o.dst == some d && p.dst == some k && d' == d && d'' == d && d != k && i.guard == j.guard && (match i.guard with | some (q, _) => q != d | none => true) &&
        guardOK ops n L (some d) o.guard i.guard && guardOK ops n L (some k) p.guard j.guard && s == s' && bytesTy C.P s &&
        dstOKb n L (some d) && dstOKb n L (some k) && m' == m && partsMOK C ps.toList qs && (match C.P.underlying t with
          | some (.slice e) => zeroTy C.P e z.cells.length z && decide (m * z.cells.length ≤ 2 ^ 24) && decide (0 < m)
          | _ => false)
    | _, _ => false
  | _, _, _, _, _ => false

def chkOps (C : Cx) (n : Nat) (L : List Nat) (ops : Array Oper) : List Oper → List AInstr → Bool
  | os, [] => os.isEmpty
  | os, i :: is => (match i.op with
    | .thaw sz _ => i.dst == none && i.guard == none && decide (0 < sz) && chkOps C n L ops os is
    | .frz _ _ => i.dst == none && i.guard == none && chkOps C n L ops os is
    | _ => match os with
      | [] => false
      | o :: os => o.dst == i.dst && guardOK ops n L i.dst o.guard i.guard && chkSt C n L o.op i.dst i.op && chkOps C n L ops os is)
    || (match is with
      | [] => false
      | j :: js => chkPair C n L ops os i j && chkOps C n L ops (os.drop 2) js)

section
variable {C : Cx} {g0 g : Gh} {own0 own : Own} {B : Nat} {H0 H : Heap} {w0 w : World} {env : Env} {a : Act} {n : Nat} {L : List Nat}

theorem guard_sim (hF : Fr C g own w env a.tmps n L) {ops : Array Oper} {d : Option Nat} {o : Oper} {i : AInstr} (hg : guardOK ops n L d o.guard i.guard = true) {b : Bool} (hw : wantedS env i.guard = some b) :
    Region.wanted o (yielded ops a.tmps) = b ∧ (b = false → dstOKb n L d = true) := by
  unfold guardOK at hg
  split at hg
  · rename_i h1 h2
    rw [h2] at hw
    simp only [wantedS, Option.some.injEq] at hw
    subst hw
    exact ⟨by simp [Region.wanted, h1], fun h => by cases h⟩
  · rename_i j wt s wt' h1 h2
    simp only [Bool.and_eq_true, beq_iff_eq, decide_eq_true_eq] at hg
    obtain ⟨⟨⟨rfl, hj⟩, hs⟩, hd⟩ := hg
    refine ⟨?_, fun _ => hd⟩
    rw [h2] at hw
    have hlt : s < a.tmps.size := by rw [hF.size]; exact hs
    have hsl := hF.slots s
    have htm : a.tmps[s]? = some (tmOf a.tmps s) := by
      unfold tmOf
      simp [hlt]
    simp only [wantedS] at hw
    simp only [Region.wanted, h1, yielded, hj, Option.bind_some, htm]
    split at hw
    · rename_i bb hb
      simp only [SlotOK, hb] at hsl
      generalize tmOf a.tmps s = v at hsl
      cases hsl
      simp only [Option.some.injEq] at hw
      subst hw
      simp
    · rename_i hb
      simp only [SlotOK, hb] at hsl
      rw [hsl]
      simp only [Option.some.injEq] at hw
      subst hw
      simp [undef]
    · cases hw
  · simp at hg

theorem still_ext {g : Gh} {own : Own} {tmps : Array Value} {e' : Env} {H H' : Heap} (hE : Ext g0 own0 B H0 w0 g own H w) (h : Still C g own B H w tmps n L e' H') :
    ∃ g' own', Ext g0 own0 B H0 w0 g' own' H' w ∧ St C g' own' B H' w ∧ Fr C g' own' w e' tmps n L := by
  obtain ⟨g', own', h1, h2, h3⟩ := h
  exact ⟨g', own', hE.trans h1, h2, h3⟩

theorem thaw_op (hS : St C g own B H w) (hF : Fr C g own w env a.tmps n L) {cl : Caller} {d : Option Nat} {sz s : Nat} {out : Out} (h : opS cl d env H (.thaw sz s) = some out) :
    ∃ e' H', out = .go .nrm e' H' ∧ Still C g own B H w a.tmps n L e' H' := by
  simp only [opS] at h
  split at h
  · rename_i hs
    simp only [Option.some.injEq] at h
    exact ⟨_, _, h.symm, thaw_still hS hF hs⟩
  · cases h

theorem frz_op (hS : St C g own B H w) (hF : Fr C g own w env a.tmps n L) {cl : Caller} {d : Option Nat} {f : Fz} {s : Nat} {out : Out} (h : opS cl d env H (.frz f s) = some out) :
    ∃ e' H', out = .go .nrm e' H' ∧ Still C g own B H w a.tmps n L e' H' := by
  simp only [opS] at h
  split at h
  · rename_i x hs
    split at h
    · rename_i y H' hz
      simp only [Option.some.injEq] at h
      exact ⟨_, _, h.symm, frz_slot hS hF hs hz⟩
    · cases h
  · rename_i cs hs
    split at h
    · rename_i ds H' hz
      simp only [Option.some.injEq] at h
      exact ⟨_, _, h.symm, frz_lv hS hF hs hz⟩
    · cases h
  · cases h

/-- a slice that is never written, in a block that is new -/
theorem New.freeze {w w1 : World} (h : New w w1) (o k : Nat) : New w (w1.freeze ⟨w.heap.size, o, none⟩ k) := by
  unfold World.freeze
  split
  · exact h
  · exact ⟨h.os, h.tape, h.output, by simp [h.size], fun b hb => by
      simp only [Array.getElem?_modify]
      rw [if_neg (by omega)]; exact h.old b hb⟩

theorem freeze_cell (w : World) (p q : Addr) (k : Nat) : (w.freeze p k).cell? q = w.cell? q := by
  unfold World.freeze
  split
  · rfl
  · simp only [World.cell?, Array.getElem?_modify]
    by_cases h : p.block = q.block
    · rw [if_pos h]
      cases hq : w.heap[q.block]? with
      | none => simp
      | some x => cases x <;> simp
    · rw [if_neg h]

theorem mkl_done2 (hS : St C g own B H w) (hF : Fr C g own w env a.tmps n L) {t e : TypeId} (ht : C.P.underlying t = some (.slice e)) {sz m : Nat} {z : AV} (hz : zeroTy C.P e sz z = true) (hm : m * sz ≤ 2 ^ 24) (hm1 : 0 < m)
    {xs : List (Nat × Operand)} {ys : List (Nat × Opd)} (hp : partsMOK C xs ys = true) {qs : List (Nat × AV)} (hq : allParts env ys = some qs) {rs : List AV} (hr : mklAV (List.replicate m z) qs = some rs) {s : TypeId} (hs : bytesTy C.P s = true) :
    ∃ v w1 w2 g' own', (do pure (Next.value (← Instr.buildSlice t m (xs.toArray.map fun (i, x) => (i, a.eval x)))) : Sem Next).run C.P w = .ok (.value v) w1 ∧ (do pure (Next.value (← Go.convert s s v)) : Sem Next).run C.P w1 = .ok (.value v) w2 ∧
      VR C g' (.list false rs) v ∧ Ext g own B H w g' own' H w2 ∧ St C g' own' B H w2 ∧ Fr C g' own' w2 env a.tmps n L := by
  obtain ⟨i, v, hi, hsz, h0, hzl, hiz, hv⟩ := zeroTy_is hz g
  have hcz := VR.cells hv (.inl (by intro e; rw [e] at hzl; simp at hzl; omega))
  have hcs : v.cells.size = sz := by have := hcz.len; simp at this; omega
  have hrow := zero_row hcz (by omega) m
  rw [hcs] at hrow
  obtain ⟨h1, h2, cs, h3, h4⟩ := mkl_fill h0 (partsM_rel hF hp hq) (fun x hx => by rw [(List.mem_replicate.1 hx).2]; exact hzl) hrow hr
  have h2' : rs.length = m := by simpa using h2
  have hrun : (Instr.buildSlice t m (xs.toArray.map fun (i, x) => (i, a.eval x))).run C.P w = .ok (.slice (some ⟨w.heap.size, 0, none⟩) m m) (w.alloc (.cells cs e)) := by
    have hpl : (xs.toArray.map fun (i, x) => (i, a.eval x)).toList = xs.map fun (i, x) => (i, a.eval x) := by simp
    generalize (xs.toArray.map fun (i, x) => (i, a.eval x)) = pa at hpl
    have hlim : ¬ (16777216 < m * sz) := by omega
    have hm0 : m * sz ≠ 0 := by
      have := Nat.mul_pos hm1 h0
      omega
    simp only [Instr.buildSlice, Sem.run_bind, run_underlying ht, Go.sizeOf, typeInfo, run_program, Result.andThen_ok, hi, Sem.run_pure, hsz]
    simp [hlim, hm0, hpl, zeroValue, typeInfo, hi, hiz, newRow]
    rw [hcs]
    have h3' : Instr.fill (fun i => some (i * sz, sz)) (Array.map (fun x => v.cells[x % sz]!) (Array.range (m * sz))) (List.map (fun x => (x.fst, a.eval x.snd)) xs) = some cs := h3
    rw [h3']
    simp
  obtain ⟨e', ie, hu, hu8, _⟩ := bytesTy_is hs
  have hlen := h4.len
  rw [flat_len h1] at hlen
  simp at hlen
  have hN := (New.alloc w (.cells cs e)).freeze cs.size 1
  obtain ⟨g', own', k1, k2, k3, k4⟩ := list_new (B := B) hS hF hN (xs := rs) (cap := m) h0 h1 (by omega) (c := cs) (fun j => by rw [freeze_cell, cell_new]) (by
    rw [List.take_of_length_le (by simp; omega)]; exact h4)
  rw [h2'] at k1
  refine ⟨_, w.alloc (.cells cs e), _, g', own', by simp only [Sem.run_bind, hrun, Result.andThen_ok]; rfl, ?_, k1, k2, k3, k4⟩
  have hsh : (w.alloc (.cells cs e)).shape? w.heap.size = some (e, cs.size) := by
    simp only [World.shape?]
    rw [show (w.alloc (.cells cs e)).heap[w.heap.size]? = some (.cells cs e) from heap_alloc_new w _]
  simp [Go.convert, run_underlying hu, run_underlying hu8, markStringish, hsh]

theorem pair_sim {ops : Array Oper} {df : List Deferred} {cl : Caller} {i j : AInstr} {is : List AInstr} {os : List Oper} {out : Out} (hc : chkPair C n L ops os i j = true)
    (ho : opsS cl (i :: j :: is) env H = some out) (hE : Ext g0 own0 B H0 w0 g own H w) (hS : St C g own B H w) (hF : Fr C g own w env a.tmps n L) (hdf : a.defers = df)
    (rec : ∀ {g : Gh} {own : Own} {H : Heap} {w : World} {env : Env} {a : Act}, opsS cl is env H = some out → Ext g0 own0 B H0 w0 g own H w → St C g own B H w → Fr C g own w env a.tmps n L → a.defers = df →
      wpList C.P ops (OutR C g0 own0 B H0 w0 n L df out) (os.drop 2) a w) :
    wpList C.P ops (OutR C g0 own0 B H0 w0 n L df out) os a w := by
  unfold chkPair at hc
  split at hc
  · rename_i o p rest d k z m qs d' hdi hdj hoi hoj
    split at hc
    · rename_i t m' ps s s' d'' hop hpp
      simp only [Bool.and_eq_true, beq_iff_eq, bne_iff_ne] at hc
      obtain ⟨⟨⟨⟨⟨⟨⟨⟨⟨⟨⟨⟨⟨⟨⟨h1, h2⟩, rfl⟩, rfl⟩, h5⟩, h6⟩, h7⟩, h8⟩, h9⟩, rfl⟩, h11⟩, h12⟩, h13⟩, rfl⟩, h15⟩, h16⟩ := hc
      split at h16
      · rename_i e hu
        simp only [Bool.and_eq_true, decide_eq_true_eq] at h16
        obtain ⟨⟨hz, hm⟩, hm1⟩ := h16
        simp only [List.drop_succ_cons, List.drop_zero] at rec
        have hd12 := dstOKb_is h12
        have hd13 := dstOKb_is h13
        simp only [opsS] at ho
        cases hw : wantedS env i.guard with
        | none => rw [hw] at ho; cases ho
        | some b =>
          have hw2 : ∀ x, wantedS ((d'', x) :: env) j.guard = some b := fun x => by
            rw [← h6, ← hw]
            cases hg : i.guard with
            | none => rfl
            | some q =>
              obtain ⟨q, wt⟩ := q
              rw [hg] at h7
              simp only [bne_iff_ne] at h7
              simp [wantedS, Env.get, h7]
          rw [hw] at ho
          obtain ⟨k1, k2⟩ := guard_sim hF h8 hw
          refine wpList_step fun K hK => ?_
          rw [k1]
          cases b with
          | false =>
            simp only [Bool.false_eq_true, if_false]
            simp only [hdi, setDst, hw2] at ho
            have hF1 := hF.put hd12 (x := .un) (v := undef) rfl rfl
            refine hK _ _ (wpList_step fun K' hK' => ?_)
            obtain ⟨l1, _⟩ := guard_sim hF1 h9 (hw2 .un)
            rw [h1, l1]
            simp only [Bool.false_eq_true, if_false]
            refine hK' _ _ (rec (env := (k, .un) :: (d'', .un) :: env) (by rw [hdj] at ho; exact ho) hE hS ?_ ?_)
            · rw [h2]
              exact hF1.put hd13 (x := .un) (v := undef) rfl rfl
            · rw [put_defers, put_defers]; exact hdf
          | true =>
            simp only [if_true]
            simp only [hoi, hdi, opS, opv] at ho
            cases hq : allParts env qs with
            | none => rw [hq] at ho; cases ho
            | some rs =>
              rw [hq] at ho
              simp only at ho
              cases hr : mklAV (List.replicate m' z) rs with
              | none => rw [hr] at ho; cases ho
              | some xs =>
                rw [hr] at ho
                simp only [Option.map_some, setDst, hw2] at ho
                obtain ⟨v, w1, w2, g', own', r1, r2, r3, r4, r5, r6⟩ := mkl_done2 hS hF hu hz hm hm1 h15 hq hr h11
                have hrun1 : (execOp a.eval o).run C.P w = .ok (.value v) w1 := by
                  obtain ⟨dst, op, type, pos, after, guard⟩ := o
                  simp only at hop
                  subst hop
                  exact r1
                unfold Oper.wp
                rw [hrun1]
                show K (a.put o.dst v) w1
                have hF1 := r6.put hd12 (x := .v (.list false xs)) (v := v) r3 rfl
                have hev : (a.put (some d'') v).eval (.tmp d'') = v := by
                  have hlt : d'' < a.tmps.size := by rw [hF.size]; exact hd12.1
                  simp [Act.put, Act.eval, hlt]
                refine hK _ _ (wpList_step fun K' hK' => ?_)
                obtain ⟨l1, _⟩ := guard_sim (w := w2) (a := a.put (some d'') v) hF1 h9 (hw2 _)
                rw [h1, l1]
                simp only [if_true]
                have hrun2 : (execOp (a.put (some d'') v).eval p).run C.P w1 = .ok (.value v) w2 := by
                  obtain ⟨dst, op, type, pos, after, guard⟩ := p
                  simp only at hpp
                  subst hpp
                  simp only [execOp, hev]
                  exact r2
                unfold Oper.wp
                rw [hrun2]
                show K' ((a.put (some d'') v).put p.dst v) w2
                rw [h2]
                simp only [hoj, hdj, Env.av, Env.sl, Env.get, if_true] at ho
                refine hK' _ _ (rec ho (hE.trans r4) r5 (hF1.put hd13 (x := .v (.list false xs)) (v := v) r3 rfl) ?_)
                rw [put_defers, put_defers]; exact hdf
      · cases h16
    · cases hc
  · cases hc

theorem ops_sim (hfun : FunsOK C) {cl : Caller} (hcl : CallsOK C cl) {ops : Array Oper} {df : List Deferred} : ∀ {is : List AInstr} {os : List Oper} {g : Gh} {own : Own} {H : Heap} {w : World} {env : Env} {a : Act} {out : Out},
    chkOps C n L ops os is = true → opsS cl is env H = some out → Ext g0 own0 B H0 w0 g own H w → St C g own B H w → Fr C g own w env a.tmps n L → a.defers = df →
    wpList C.P ops (OutR C g0 own0 B H0 w0 n L df out) os a w
  | [], os, g, own, H, w, env, a, out, hc, ho, hE, hS, hF, hdf => by
    simp only [chkOps, List.isEmpty_iff] at hc
    subst hc
    simp only [opsS, Option.some.injEq] at ho
    subst ho
    exact ⟨rfl, hdf, g, own, hE, hS, hF⟩
  | i :: is, os, g, own, H, w, env, a, out, hc, ho, hE, hS, hF, hdf => by
    have ghost : ∀ (h2 : i.guard = none) (h4 : chkOps C n L ops os is = true) (hg : ∀ o1, opS cl i.dst env H i.op = some o1 → ∃ e' H', o1 = .go .nrm e' H' ∧ Still C g own B H w a.tmps n L e' H'),
        wpList C.P ops (OutR C g0 own0 B H0 w0 n L df out) os a w := fun h2 h4 hg => by
      simp only [opsS, h2, wantedS] at ho
      cases hx : opS cl i.dst env H i.op with
      | none => rw [hx] at ho; cases ho
      | some o1 =>
        obtain ⟨e', H', rfl, hst⟩ := hg o1 hx
        rw [hx] at ho
        obtain ⟨g', own', k1, k2, k3⟩ := still_ext hE hst
        exact ops_sim hfun hcl h4 ho k1 k2 k3 hdf
    unfold chkOps at hc
    simp only [Bool.or_eq_true] at hc
    rcases hc with hc | hc
    case inr =>
      split at hc
      · cases hc
      · rename_i j js
        simp only [Bool.and_eq_true] at hc
        exact pair_sim hc.1 ho hE hS hF hdf fun ho' hE' hS' hF' hdf' => ops_sim hfun hcl hc.2 ho' hE' hS' hF' hdf'
    split at hc
    · rename_i sz s hi
      simp only [Bool.and_eq_true, beq_iff_eq, decide_eq_true_eq] at hc
      exact ghost hc.1.1.2 hc.2 (fun o1 h => thaw_op hS hF (hi ▸ h))
    · rename_i f s hi
      simp only [Bool.and_eq_true, beq_iff_eq] at hc
      exact ghost hc.1.2 hc.2 (fun o1 h => frz_op hS hF (hi ▸ h))
    · split at hc
      · cases hc
      · rename_i o os'
        simp only [Bool.and_eq_true, beq_iff_eq] at hc
        obtain ⟨⟨⟨h1, h2⟩, h3⟩, h4⟩ := hc
        refine wpList_step fun K hK => ?_
        simp only [opsS] at ho
        cases hw : wantedS env i.guard with
        | none => rw [hw] at ho; cases ho
        | some b =>
          rw [hw] at ho
          obtain ⟨k1, k2⟩ := guard_sim hF h2 hw
          rw [k1]
          cases b with
          | false =>
            simp only [Bool.false_eq_true, if_false]
            refine hK _ _ (ops_sim hfun hcl h4 ho hE hS ?_ ?_)
            · rw [h1]
              exact hF.put (dstOKb_is (k2 rfl)) (x := .un) rfl rfl
            · rw [put_defers]; exact hdf
          | true =>
            simp only [if_true]
            simp only at ho
            cases hx : opS cl i.dst env H i.op with
            | none => rw [hx] at ho; cases ho
            | some o1 =>
              rw [hx] at ho
              refine op_sim hfun hS hF hcl h1 h3 hx ⟨fun x e' H' he g' own' w' a' hE' hS' hF' hd' => ?_, fun v e' H' he g' own' w' pv hE' hS' hF' hv => ?_⟩
              · subst he
                simp only at ho
                exact hK _ _ (ops_sim hfun hcl h4 ho (hE.trans hE') hS' hF' (hd'.trans hdf))
              · subst he
                simp only [Option.some.injEq] at ho
                subst ho
                exact ⟨pv, rfl, hdf, g', own', hE.trans hE', hS', hF', hv⟩
end
end Ey
