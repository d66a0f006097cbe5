/- One operation, whichever. -/
import Derived.Test.YtjcnpcdcpfbpdaaGreatDoorEySim
namespace Ey
open Go Go.RowKit

section
variable {C : Cx} {g : Gh} {own : Own} {B : Nat} {H : Heap} {w : World} {env : Env} {a : Act} {n : Nat} {L : List Nat}

/-- what must hold behind an operation, for its own sake -/
structure Cont (C : Cx) (g : Gh) (own : Own) (B : Nat) (H : Heap) (w : World) (a : Act) (n : Nat) (L : List Nat) (out : Out) (K : Act → World → Prop) (Q : Exit → Act → World → Prop) : Prop where
  go : ∀ x e' H', out = .go x e' H' → ∀ g' own' w' a', Ext g own B H w g' own' H' w' → St C g' own' B H' w' → Fr C g' own' w' e' a'.tmps n L → a'.defers = a.defers → K a' w'
  pan : ∀ v e' H', out = .pan v e' H' → ∀ g' own' w' pv, Ext g own B H w g' own' H' w' → St C g' own' B H' w' → Fr C g' own' w' e' a.tmps n L → VR C g' v pv → Q (.panic [{ v := pv, recovered := false }]) a w'

theorem put_defers (d : Option Nat) (v : Value) : (a.put d v).defers = a.defers := by cases d <;> rfl

theorem wp_of_done {o : Oper} {d : Option Nat} (hd : o.dst = d) {e' : Env} {H' : Heap} {K : Act → World → Prop} {Q : Exit → Act → World → Prop} (hK : Cont C g own B H w a n L (.go .nrm e' H') K Q)
    (h : Done C g own B H w a n L d e' H' ((execOp a.eval o).run C.P w)) : o.wp C.P a w K Q := by
  obtain ⟨g', own', w', v, hr, hE, hS, hF⟩ := h
  subst hd
  unfold Oper.wp
  rcases hr with hr | ⟨hr, rfl⟩
  · rw [hr]; exact hK.go _ _ _ rfl g' own' w' _ hE hS hF (put_defers _ _)
  · rw [hr]; exact hK.go _ _ _ rfl g' own' w' _ hE hS hF (put_defers _ _)

theorem call_wp (hS : St C g own B H w) (hF : Fr C g own w env a.tmps n L) {cl : Caller} (hcl : CallsOK C cl) {o : Oper} {d : Option Nat} (hd : o.dst = d) (hdo : dstOK n L d) {f : Nat} {fid : FuncId} (hf : C.fm f = some fid) {vs : List AV} {ws : Array Value}
    (hl : vs.length = ws.size) (hv : ∀ (i : Nat) (x : AV) (y : Value), vs[i]? = some x → ws[i]? = some y → VR C g x y) (hrun : (execOp a.eval o).run C.P w = .ok (.enter fid ws) w) {r : CRes} (hr : cl f vs H = some r)
    {K : Act → World → Prop} {Q : Exit → Act → World → Prop} (hK : Cont C g own B H w a n L (match r with | .ret v H' => .go .nrm (setDst d (.v v) env) H' | .pan v H' => .pan v env H') K Q) : o.wp C.P a w K Q := by
  have hcalls := hcl f vs H r hr fid hf g (calleeOwn own) B w ws hS.callee (noSlots_callee own) hl hv
  unfold Oper.wp
  rw [hrun]
  subst hd
  refine hcalls.mono fun e w' h => ?_
  obtain ⟨g', own', hn, h⟩ := h
  cases r with
  | ret v H' =>
    obtain ⟨⟨rv, rfl, hrv⟩, hE, hS'⟩ := h
    exact hK.go _ _ _ rfl g' (backOwn own own') w' _ hE.back (hS.back hE hS') ((hF.back hE).put hdo (x := .v v) hrv rfl) (put_defers _ _)
  | pan v H' =>
    obtain ⟨⟨pv, rfl, hpv⟩, hE, hS'⟩ := h
    exact hK.pan _ _ _ rfl g' (backOwn own own') w' pv hE.back (hS.back hE hS') (hF.back hE) hpv

theorem run_enter (hfun : FunsOK C) {o : Oper} {c : Call} (ho : o.op = .call c) {y : Operand} (hc : c.callee = .value y) {fid : FuncId} {cap : Array Value} (hy : a.eval y = .func (.func fid) #[] cap) {f : Nat} (hf : C.fm f = some fid) :
    (execOp a.eval o).run C.P w = .ok (.enter fid (c.args.map a.eval ++ cap)) w := by
  obtain ⟨fn, body, h1, h2, h3⟩ := hfun f fid hf
  obtain ⟨dst, op, type, pos, after, guard⟩ := o
  simp only at ho
  subst ho
  obtain ⟨callee, args, ats⟩ := c
  simp only at hc
  subst hc
  simp [execOp, resolve, hy, Deferred.ofValue, invoke, callFunc, h1, h2, h3]

def isPv : AOp → Bool
  | .alv _ | .blv .. | .aob _ | .bob .. | .st .. | .sto .. | .app .. | .apz .. | .mks .. | .mkm .. | .cpy .. | .clr .. | .thaw .. | .frz .. | .call .. | .callc .. | .callv .. | .pan _ | .mkmp | .mpu .. => false
  | _ => true

theorem chkPure_pv {op : Op} {aop : AOp} (h : chkPure C op aop = true) : isPv aop = true := by
  unfold chkPure at h
  split at h <;> first | rfl | cases h

theorem cvb_opv {x : Opd} {q : Sl} (h : opv env H (.cvb x) = some q) : ∃ z ys l, env.av x = some z ∧ (∀ s, z ≠ .str s) ∧ elemsOf H 1 z = some ys ∧ ys.mapM byteOf = some l ∧ q = .v (.str l) := by
  simp only [opv] at h
  split at h
  · rename_i nl xs hx
    simp only [Option.map_eq_some_iff] at h
    obtain ⟨l, hl, rfl⟩ := h
    refine ⟨_, xs, l, hx, (fun s e => by cases e), ?_, hl, rfl⟩
    simp only [elemsOf]
    rw [if_pos (List.all_eq_true.2 fun y hy => by simpa using (bytes_cells hl).1 y hy)]
  · rename_i hx
    simp only [Option.some.injEq] at h
    subst h
    exact ⟨_, [], [], hx, (fun s e => by cases e), rfl, rfl, rfl⟩
  · rename_i id ver lo len hx
    split at h
    · rename_i nl xs hg
      split at h
      · rename_i hcond
        simp only [Option.map_eq_some_iff] at h
        obtain ⟨l, hl, rfl⟩ := h
        refine ⟨_, _, l, hx, (fun s e => by cases e), ?_, hl, rfl⟩
        simp only [elemsOf, hg]
        rw [if_pos ⟨trivial, hcond.1, hcond.2⟩]
      · cases h
    · cases h
  · cases h

theorem putAt_same {cs new : List AV} {off sz : Nat} (h : (cs.drop off).take sz = new) (hl : off + new.length ≤ cs.length) : putAt cs off new = cs := by
  unfold putAt
  subst h
  rw [List.length_take, List.length_drop] at hl ⊢
  have h1 : (cs.drop off).take sz ++ cs.drop (off + min sz (cs.length - off)) = cs.drop off := by
    have : cs.drop (off + min sz (cs.length - off)) = (cs.drop off).drop sz := by
      rw [List.drop_drop]
      by_cases hs : sz ≤ cs.length - off
      · rw [Nat.min_eq_left hs]
      · rw [List.drop_eq_nil_of_le (by omega), List.drop_eq_nil_of_le (by omega)]
    rw [this, List.take_append_drop]
  rw [List.append_assoc, h1, List.take_append_drop]

theorem sts_opv {sz : Nat} {x v : Opd} {q : Sl} (h : opv env H (.sts sz x v) = some q) : ∃ id off z cs, env.sl x = .v (.ptr id off) ∧ env.av v = some z ∧ H.ro ≤ id ∧ z.cells.length = sz ∧ H.get id = some (.obj cs) ∧ (cs.drop off).take sz = z.cells ∧ q = .un := by
  simp only [opv] at h
  split at h
  · rename_i id off z h1 h2
    split at h
    · rename_i h3
      split at h
      · rename_i cs hg
        split at h
        · rename_i hs
          simp only [Option.some.injEq] at h
          exact ⟨id, off, z, cs, h1, h2, h3.1, h3.2, hg, AV.sames_eq hs, h.symm⟩
        · cases h
      · cases h
    · cases h
  · cases h

theorem mpl_opv {n : Nat} {z : AV} {ok : Bool} {m k : Opd} {q : Sl} (h : opv env H (.mpl n z ok m k) = some q) : ∃ id kv es r, env.av m = some (.mp id) ∧ env.av k = some kv ∧ keyOK n kv = true ∧ H.get id = some (.map es) ∧ mpFind kv es 0 = some r ∧
    q = .v (lkV ok z r) := by
  simp only [opv] at h
  split at h
  · rename_i id kv h1 h2
    split at h
    · rename_i h3
      split at h
      · rename_i es hg
        split at h
        · rename_i i x hf
          simp only [Option.some.injEq] at h
          exact ⟨id, kv, es, _, h1, h2, h3, hg, hf, h.symm⟩
        · rename_i hf
          simp only [Option.some.injEq] at h
          exact ⟨id, kv, es, _, h1, h2, h3, hg, hf, h.symm⟩
        · cases h
      · cases h
    · cases h
  · cases h

set_option maxHeartbeats 1600000 in
theorem op_sim (hfun : FunsOK C) (hS : St C g own B H w) (hF : Fr C g own w env a.tmps n L) {cl : Caller} (hcl : CallsOK C cl) {o : Oper} {d : Option Nat} (hd : o.dst = d) {aop : AOp} (hc : chkSt C n L o.op d aop = true) {out : Out}
    (hop : opS cl d env H aop = some out) {K : Act → World → Prop} {Q : Exit → Act → World → Prop} (hK : Cont C g own B H w a n L out K Q) : o.wp C.P a w K Q := by
  have ho : o = ⟨o.dst, o.op, o.type, o.pos, o.after, o.guard⟩ := rfl
  unfold chkSt at hc
  split at hc
  -- alloc: a local variable
  case h_1 t cs hopp =>
    simp only [Bool.and_eq_true] at hc
    obtain ⟨hz, hdd⟩ := hc
    split at hdd
    · rename_i s
      simp only [Bool.and_eq_true, decide_eq_true_eq] at hdd
      obtain ⟨v, hv1, hv2⟩ := zeroCells_run hz g
      simp only [opS] at hop
      split at hop
      · simp at hop
      · rename_i hnl
        simp only [Option.some.injEq] at hop
        subst hop
        refine wp_of_done hd hK ?_
        have hrun : (execOp a.eval o).run C.P w = .ok (.value (.pointer (some ⟨w.heap.size, 0, none⟩))) (w.alloc (.cells v.cells t)) := by
          rw [ho, hopp]
          simp [execOp, Instr.alloc, hv1, newVar, newRow]
        rw [hrun]
        exact done_lv hS hF hdd.1 (by simpa using hdd.2) (fun cs' e => hnl cs' e) hv2 t
    · simp at hdd
  case h_2 t x sz y hopp =>
    simp only [Bool.and_eq_true, decide_eq_true_eq] at hc
    obtain ⟨⟨hx, h0⟩, hdd⟩ := hc
    split at hdd
    · rename_i s
      simp only [Bool.and_eq_true, decide_eq_true_eq] at hdd
      simp only [opS] at hop
      split at hop
      · rename_i s' v hs' hv
        simp at hs'; subst hs'
        split at hop
        · simp at hop
        · rename_i hnl
          split at hop
          · rename_i hl
            simp only [Option.some.injEq] at hop
            subst hop
            refine wp_of_done hd hK ?_
            have hr := av_rel hF hx hv
            have hrun : (execOp a.eval o).run C.P w = .ok (.value (.pointer (some ⟨w.heap.size, 0, none⟩))) (w.alloc (.cells (a.eval x).cells t)) := by
              rw [ho, hopp]
              simp [execOp, Instr.box, newVar, newRow]
            rw [hrun]
            exact done_lv hS hF hdd.1 (by simpa using hdd.2) (fun cs' e => hnl cs' e) (VR.cells hr (.inl (by intro e; rw [e] at hl; simp at hl; omega))) t
          · simp at hop
      · simp at hop
    · simp at hdd
  case h_3 t x sz y hopp =>
    simp only [Bool.and_eq_true, decide_eq_true_eq] at hc
    obtain ⟨⟨hdd, hx⟩, h0⟩ := hc
    simp only [opS, opv] at hop
    split at hop
    · rename_i q hq
      split at hq
      · rename_i v hv
        split at hq
        · rename_i hl
          simp only [Option.some.injEq] at hq hop
          subst hq; subst hop
          refine wp_of_done hd hK ?_
          have hr := av_rel hF hx hv
          have hne : v.cells ≠ [] := by intro e; rw [e] at hl; simp at hl; omega
          have hrun : (execOp a.eval o).run C.P w = .ok (.value (.pointer (some ⟨w.heap.size, 0, none⟩))) (w.alloc (.cells (a.eval x).cells t)) := by
            rw [ho, hopp]
            simp [execOp, Instr.box, newVar, newRow]
          rw [hrun]
          exact done_imm hS hF (dstOKb_is hdd) hne (VR.cells hr (.inl hne)) t
        · simp at hq
      · simp at hq
    · simp at hop
  case h_4 t cs hopp =>
    simp only [Bool.and_eq_true] at hc
    obtain ⟨hdd, hz⟩ := hc
    obtain ⟨v, hv1, hv2⟩ := zeroCells_run hz g
    simp only [opS, Option.some.injEq] at hop
    subst hop
    refine wp_of_done hd hK ?_
    have hrun : (execOp a.eval o).run C.P w = .ok (.value (.pointer (some ⟨w.heap.size, 0, none⟩))) (w.alloc (.cells v.cells t)) := by
      rw [ho, hopp]
      simp [execOp, Instr.alloc, hv1, newVar, newRow]
    rw [hrun]
    exact done_obj hS hF (dstOKb_is hdd) hv2 t
  case h_5 t x sz y hopp =>
    simp only [Bool.and_eq_true, decide_eq_true_eq] at hc
    obtain ⟨⟨hdd, hx⟩, h0⟩ := hc
    simp only [opS] at hop
    split at hop
    · rename_i v hv
      split at hop
      · rename_i hl
        simp only [Option.some.injEq] at hop
        subst hop
        refine wp_of_done hd hK ?_
        have hr := av_rel hF hx hv
        have hne : v.cells ≠ [] := by intro e; rw [e] at hl; simp at hl; omega
        have hrun : (execOp a.eval o).run C.P w = .ok (.value (.pointer (some ⟨w.heap.size, 0, none⟩))) (w.alloc (.cells (a.eval x).cells t)) := by
          rw [ho, hopp]
          simp [execOp, Instr.box, newVar, newRow]
        rw [hrun]
        exact done_obj hS hF (dstOKb_is hdd) (VR.cells hr (.inl hne)) t
      · simp at hop
    · simp at hop
  case h_6 t m ps z k qs hopp =>
    simp only [Bool.and_eq_true, beq_iff_eq] at hc
    obtain ⟨⟨⟨hdd, rfl⟩, hp⟩, ht⟩ := hc
    split at ht
    · rename_i e hu
      simp only [Bool.and_eq_true, decide_eq_true_eq] at ht
      simp only [opS, opv] at hop
      split at hop
      · rename_i q hq
        split at hq
        · rename_i rs hrs
          simp only [Option.map_eq_some_iff] at hq
          obtain ⟨xs, hxs, rfl⟩ := hq
          simp only [Option.some.injEq] at hop
          subst hop
          refine wp_of_done hd hK ?_
          obtain ⟨r, h1, h2⟩ := mkl_done hS hF (dstOKb_is hdd) hu ht.1 ht.2 hp hrs hxs
          rw [ho, hopp]
          rw [← h1] at h2
          exact h2
        · simp at hq
      · simp at hop
    · simp at ht
  case h_7 t x v sz x' v' hopp =>
    simp only [Bool.and_eq_true, beq_iff_eq] at hc
    obtain ⟨⟨⟨hdd, hs⟩, hx⟩, hv⟩ := hc
    subst hdd
    obtain ⟨hsz, h0⟩ := sizeIs_run hs w
    simp only [opS] at hop
    split at hop
    · rename_i z hz
      split at hop
      · rename_i hl
        split at hop
        · rename_i e' H' hst
          simp only [Option.some.injEq] at hop
          subst hop
          refine wp_of_done hd hK ?_
          obtain ⟨r, h1, h2⟩ := st_done hS hF hsz h0 hx hv hz hl hst
          rw [ho, hopp]
          rw [← h1] at h2
          exact h2
        · simp at hop
      · simp at hop
    · simp at hop
  case h_8 t x v sz x' v' hopp =>
    simp only [Bool.and_eq_true, beq_iff_eq] at hc
    obtain ⟨⟨⟨hdd, hs⟩, hx⟩, hv⟩ := hc
    subst hdd
    obtain ⟨hsz, h0⟩ := sizeIs_run hs w
    simp only [opS] at hop
    split at hop
    · rename_i y hy
      split at hop
      · rename_i z hz
        split at hop
        · rename_i hl
          split at hop
          · rename_i e' H' hst
            simp only [Option.some.injEq] at hop
            subst hop
            have he : e' = env := by
              cases y <;> simp only [stS] at hst <;> try (cases hst; done)
              all_goals
                repeat' (split at hst)
                all_goals first | (cases hst; done) | (simp only [Option.some.injEq, Prod.mk.injEq] at hst; exact hst.1.symm)
            subst he
            refine wp_of_done hd hK ?_
            obtain ⟨r, h1, h2⟩ := st_done hS hF hsz h0 hx hv hz hl (by rw [hy]; exact hst)
            rw [ho, hopp]
            rw [← h1] at h2
            exact h2
          · simp at hop
        · simp at hop
      · simp at hop
    · simp at hop
  case h_9 t l c sz z y hopp =>
    simp only [Bool.and_eq_true] at hc
    obtain ⟨⟨⟨hdd, ht⟩, hl⟩, hcc⟩ := hc
    simp only [opS] at hop
    split at hop
    · rename_i kd k hk
      split at hop
      · rename_i hcond
        simp only [Option.some.injEq] at hop
        subst hop
        refine wp_of_done hd hK ?_
        have h1 := av_rel hF hl hk
        have h2 := av_rel hF hcc hk
        have h3 : a.eval c = a.eval l := by
          generalize a.eval l = u at h1 ⊢
          generalize a.eval c = u' at h2 ⊢
          cases h1; cases h2; rfl
        obtain ⟨r, h4, h5⟩ := mks_done hS hF (dstOKb_is hdd) ht h1 hcond.1 hcond.2.1
        rw [ho, hopp]
        rw [← h4] at h5
        simp only [execOp, h3]
        exact h5
      · simp at hop
    · simp at hop
  case h_10 c sz b x hopp =>
    simp only [Bool.and_eq_true] at hc
    obtain ⟨hdd, hc⟩ := hc
    split at hc
    · rename_i s y t tx hb
      simp only [Bool.and_eq_true] at hc
      obtain ⟨⟨ht, h1⟩, h2⟩ := hc
      have := asBuiltin_is hb
      subst this
      simp only [opS] at hop
      split at hop
      · rename_i u v hu hv
        split at hop
        · rename_i r H' happ
          simp only [Option.some.injEq] at hop
          subst hop
          refine wp_of_done hd hK ?_
          obtain ⟨res, h3, h4⟩ := app_done (ty := o.type) hS hF (dstOKb_is hdd) ht (av_rel hF h1 hu) (av_rel hF h2 hv) happ
          rw [← h3] at h4
          rw [run_builtin hopp]
          simpa [Go.builtin] using h4
        · simp at hop
      · simp at hop
    · simp at hc
  case h_11 c f ys hopp =>
    simp only [Bool.and_eq_true] at hc
    obtain ⟨hdd, hc⟩ := hc
    split at hc
    · rename_i fid hcal
      simp only [Bool.and_eq_true, beq_iff_eq] at hc
      obtain ⟨hf, hys⟩ := hc
      simp only [opS] at hop
      split at hop
      · rename_i vs hvs
        obtain ⟨h1, h2⟩ := all_rel hF hys hvs
        have hrun := run_enter (w := w) (a := a) hfun hopp hcal (y := .func fid) (fid := fid) (cap := #[]) rfl hf
        split at hop
        · rename_i v H' hr
          simp only [Option.some.injEq] at hop
          subst hop
          exact call_wp hS hF hcl hd (dstOKb_is hdd) hf (ws := c.args.map a.eval ++ #[]) (by simp [h1]) (fun i x y hx hy => h2 i x y hx (by simpa using hy)) hrun hr hK
        · rename_i v H' hr
          simp only [Option.some.injEq] at hop
          subst hop
          exact call_wp hS hF hcl hd (dstOKb_is hdd) hf (ws := c.args.map a.eval ++ #[]) (by simp [h1]) (fun i x y hx hy => h2 i x y hx (by simpa using hy)) hrun hr hK
        · simp at hop
      · simp at hop
    · simp at hc
  case h_12 c f ys cs hopp =>
    simp only [Bool.and_eq_true] at hc
    obtain ⟨hdd, hc⟩ := hc
    split at hc
    · rename_i fid hcal
      simp only [Bool.and_eq_true, beq_iff_eq] at hc
      obtain ⟨hf, hys⟩ := hc
      simp only [opS] at hop
      split at hop
      · rename_i vs hvs
        obtain ⟨h1, h2⟩ := all_rel hF hys hvs
        have hrun := run_enter (w := w) (a := a) hfun hopp hcal (y := .func fid) (fid := fid) (cap := #[]) rfl hf
        split at hop
        · rename_i v H' hr
          split at hop
          · simp only [Option.some.injEq] at hop
            subst hop
            exact call_wp hS hF hcl hd (dstOKb_is hdd) hf (ws := c.args.map a.eval ++ #[]) (by simp [h1]) (fun i x y hx hy => h2 i x y hx (by simpa using hy)) hrun hr hK
          · simp at hop
        · simp at hop
      · simp at hop
    · simp at hc
  case h_13 c x ys hopp =>
    simp only [Bool.and_eq_true] at hc
    obtain ⟨hdd, hc⟩ := hc
    split at hc
    · rename_i y hcal
      simp only [Bool.and_eq_true] at hc
      obtain ⟨hx, hys⟩ := hc
      simp only [opS] at hop
      split at hop
      · rename_i f cap vs hfx hvs
        obtain ⟨h1, h2⟩ := all_rel hF hys hvs
        have hr := av_rel hF hx hfx
        generalize hev : a.eval y = vy at hr
        cases hr with
        | fn _ _ fid us hf hl hv =>
          have hrun := run_enter (w := w) (a := a) hfun hopp hcal hev hf
          have h1' : vs.length = c.args.size := by simpa using h1
          have hrel : ∀ (i : Nat) (x : AV) (z : Value), (vs ++ cap)[i]? = some x → (c.args.map a.eval ++ us)[i]? = some z → VR C g x z := fun i x z hx hz => by
            by_cases hi : i < vs.length
            · rw [List.getElem?_append_left hi] at hx
              rw [Array.getElem?_append_left (by simp; omega)] at hz
              exact h2 i x z hx (by simpa using hz)
            · rw [List.getElem?_append_right (by omega)] at hx
              rw [Array.getElem?_append_right (by simp; omega)] at hz
              have e : i - vs.length = i - (c.args.map a.eval).size := by simp [h1]
              rw [e] at hx
              exact hv _ x z hx hz
          split at hop
          · rename_i v H' hr
            simp only [Option.some.injEq] at hop
            subst hop
            exact call_wp hS hF hcl hd (dstOKb_is hdd) hf (ws := c.args.map a.eval ++ us) (by simp [h1, hl]) hrel hrun hr hK
          · rename_i v H' hr
            simp only [Option.some.injEq] at hop
            subst hop
            exact call_wp hS hF hcl hd (dstOKb_is hdd) hf (ws := c.args.map a.eval ++ us) (by simp [h1, hl]) hrel hrun hr hK
          · simp at hop
      · simp at hop
    · simp at hc
  case h_14 x y hopp =>
    simp only [opS] at hop
    split at hop
    · rename_i t v hv
      simp only [Option.some.injEq] at hop
      subst hop
      have hr := av_rel hF hc hv
      unfold Oper.wp
      have hrun : (execOp a.eval o).run C.P w = .halt (.panic (a.eval x)) w := by
        rw [ho, hopp]
        simp only [execOp]
        generalize a.eval x = vx at hr
        cases hr
        simp [Instr.panic]
      rw [hrun]
      exact hK.pan _ _ _ rfl g own w _ (.refl _ _ _ _ _) hS hF hr
    · simp at hop
  case h_15 t m ps z k qs hopp =>
    simp only [Bool.and_eq_true, beq_iff_eq] at hc
    obtain ⟨⟨⟨hdd, rfl⟩, hp⟩, ht⟩ := hc
    split at ht
    · rename_i e hu
      simp only [Bool.and_eq_true, decide_eq_true_eq] at ht
      simp only [opS] at hop
      split at hop
      · rename_i rs hrs
        split at hop
        · rename_i xs hxs
          simp only [Option.some.injEq] at hop
          subst hop
          refine wp_of_done hd hK ?_
          obtain ⟨r, h1, h2⟩ := mkm_done hS hF (dstOKb_is hdd) hu ht.1 ht.2 hp hrs hxs
          rw [ho, hopp]
          rw [← h1] at h2
          exact h2
        · simp at hop
      · simp at hop
    · simp at ht
  case h_16 c sz z x hopp =>
    simp only [Bool.and_eq_true] at hc
    obtain ⟨hdd, hc⟩ := hc
    split at hc
    · rename_i y t hb
      simp only [Bool.and_eq_true] at hc
      obtain ⟨ht, h1⟩ := hc
      have := asBuiltin_is hb
      subst this
      simp only [opS] at hop
      split at hop
      · rename_i id ver lo len hu
        split at hop
        · simp at hop
        · rename_i hro
          split at hop
          · rename_i nl k xs hg
            split at hop
            · rename_i hcond
              obtain ⟨rfl, hzl, hver, hfit⟩ := hcond
              simp only [Option.some.injEq] at hop
              subst hop
              refine wp_of_done hd hK ?_
              obtain ⟨res, h3, h4⟩ := clr_done (ty := o.type) hS hF (dstOKb_is hdd) ht (av_rel hF h1 hu) hg (by omega) hver hfit
              rw [← h3] at h4
              rw [run_builtin hopp]
              simpa [Go.builtin] using h4
            · simp at hop
          · simp at hop
      · simp at hop
    · simp at hc
  case h_17 c sz z b x hopp =>
    simp only [Bool.and_eq_true] at hc
    obtain ⟨hdd, hc⟩ := hc
    split at hc
    · rename_i s y t tx hb
      simp only [Bool.and_eq_true] at hc
      obtain ⟨⟨ht, h1⟩, h2⟩ := hc
      have := asBuiltin_is hb
      subst this
      simp only [opS] at hop
      split at hop
      · rename_i k hu hv
        split at hop
        · rename_i hcond
          simp only [Option.some.injEq] at hop
          subst hop
          refine wp_of_done hd hK ?_
          obtain ⟨res, h3, h4⟩ := apz_done (ty := o.type) hS hF (dstOKb_is hdd) ht (av_rel hF h1 hu) rfl (av_rel hF h2 hv) hcond.1 hcond.2.1
          rw [← h3] at h4
          rw [run_builtin hopp]
          simpa [Go.builtin] using h4
        · simp at hop
      · simp at hop
    · simp at hc
  case h_18 t x v x' v' hopp =>
    simp only [Bool.and_eq_true, beq_iff_eq] at hc
    obtain ⟨⟨⟨hdd, hs⟩, hx⟩, hv⟩ := hc
    subst hdd
    have hsz := sizeNone_run hs w
    simp only [opS, opv] at hop
    split at hop
    · rename_i y hy
      simp only [Option.some.injEq] at hop
      subst hop
      split at hy
      · rename_i s off hsl hval
        simp only [Option.some.injEq] at hy
        subst hy
        have hv' := av_rel hF hv hval
        have hs' := sl_rel hF hx hsl (by simp)
        refine wp_of_done hd hK ⟨g, own, w, undef, .inr ⟨?_, rfl⟩, Ext.refl g own B H w, hS, hF⟩
        rw [ho, hopp]
        show (do Instr.storeAt t (a.eval x) (a.eval v); pure Next.skip : Sem Next).run C.P w = .ok .skip w
        obtain ⟨cs, b, o', h1, h2, h3⟩ := hs'
        rw [h3]
        generalize a.eval v = vy at hv' ⊢
        cases hv' with
        | agg _ ws hl _ _ =>
          have he : ws = #[] := by
            apply Array.eq_empty_of_size_eq_zero
            simpa using hl.symm
          subst he
          simp [Instr.storeAt, Instr.sureAddr, storeVar, hsz, Value.cells, storeCells]
      · cases hy
    · simp at hop
  case h_19 s t x y hopp =>
    simp only [Bool.and_eq_true] at hc
    obtain ⟨⟨⟨hdd, hs⟩, ht⟩, hx⟩ := hc
    simp only [opS] at hop
    split at hop
    · rename_i q hq
      simp only [Option.some.injEq] at hop
      subst hop
      refine wp_of_done hd hK ?_
      obtain ⟨z, ys, l, hz, hn, hy, hb, rfl⟩ := cvb_opv hq
      obtain ⟨r, h1, h2⟩ := cvb_sim hS hs ht (av_rel hF hx hz) hn hy hb
      have hrun : (execOp a.eval o).run C.P w = .ok (.value r) w := by
        rw [ho, hopp]
        exact run_value (C := C) (o := ⟨o.dst, .convert s t x, o.type, o.pos, o.after, o.guard⟩) (s := Go.convert s t (a.eval x)) rfl h1
      exact done_pure hS hF (dstOKb_is hdd) hrun (x := .v (.str l)) h2 rfl
    · simp at hop
  case h_20 s t x y hopp =>
    simp only [Bool.and_eq_true] at hc
    obtain ⟨⟨⟨hdd, hs⟩, ht⟩, hx⟩ := hc
    simp only [opS, opv] at hop
    split at hop
    · rename_i q hq
      simp only [Option.some.injEq] at hop
      subst hop
      split at hq
      · rename_i l hl
        simp only [Option.some.injEq] at hq
        subst hq
        refine wp_of_done hd hK ?_
        obtain ⟨r, w1, h1, h2⟩ := cvs_done hS hF (dstOKb_is hdd) hs ht (av_rel hF hx hl)
        have hrun : (execOp a.eval o).run C.P w = .ok (.value r) w1 := by
          rw [ho, hopp]
          show (do pure (Next.value (← Go.convert s t (a.eval x))) : Sem Next).run C.P w = _
          simp [h1]
        rw [hrun]
        exact h2
      · cases hq
    · simp at hop
  case h_21 t x v sz x' v' hopp =>
    simp only [Bool.and_eq_true, beq_iff_eq] at hc
    obtain ⟨⟨⟨hdd, hs⟩, hx⟩, hv⟩ := hc
    subst hdd
    obtain ⟨hsz, h0⟩ := sizeIs_run hs w
    simp only [opS] at hop
    split at hop
    · rename_i q hq
      simp only [Option.some.injEq] at hop
      subst hop
      obtain ⟨id, off, z, cs, hy, hz, hro, hl, hg, hcs, rfl⟩ := sts_opv hq
      refine wp_of_done hd hK ?_
      have hlen := congrArg List.length hcs
      simp only [List.length_take, List.length_drop] at hlen
      have hst : stS env H z.cells (env.sl x') = some (env, H) := by
        rw [hy]
        simp only [stS]
        rw [if_neg (by omega), hg]
        simp only
        rw [if_pos (by omega), putAt_same hcs (by omega), Heap.put_same hg]
      obtain ⟨r, h1, h2⟩ := st_done hS hF hsz h0 hx hv hz hl hst
      rw [ho, hopp]
      rw [← h1] at h2
      exact h2
    · simp at hop
  case h_22 t hopp =>
    simp only [opS, Option.some.injEq] at hop
    subst hop
    refine wp_of_done hd hK ?_
    have hrun : (execOp a.eval o).run C.P w = .ok (.value (.map (some w.heap.size))) (w.alloc (.map #[] 0)) := by
      rw [ho, hopp]
      have hmk : (Instr.makeMap t none).run C.P w = .ok (.map (some w.heap.size)) (w.alloc (.map #[] 0)) := rfl
      simp [execOp, hmk]
    rw [hrun]
    exact mkmp_done hS hF (dstOKb_is hc)
  case h_23 t x k ok m z ok' x' k' hopp =>
    simp only [Bool.and_eq_true, beq_iff_eq] at hc
    obtain ⟨⟨⟨⟨hdd, rfl⟩, hx⟩, hk⟩, ht⟩ := hc
    unfold mapLookOK at ht
    split at ht
    · rename_i kt et hu
      simp only [Bool.and_eq_true] at ht
      obtain ⟨ht, hz⟩ := ht
      simp only [opS] at hop
      split at hop
      · rename_i q hq
        simp only [Option.some.injEq] at hop
        subst hop
        obtain ⟨id, kv, es, r, h1, h2, h3, h4, h5, rfl⟩ := mpl_opv hq
        obtain ⟨zv, hz1, hz2⟩ := zero_run hz g w
        obtain ⟨v, k1, k2⟩ := mpl_sim (w := w) hS hu ht hz1 hz2 h3 h4 h5 (av_rel hF hx h1) (av_rel hF hk h2) ok
        refine wp_of_done hd hK ?_
        have hrun : (execOp a.eval o).run C.P w = .ok (.value v) w := by
          rw [ho, hopp]
          exact run_value (C := C) (o := ⟨o.dst, .lookup t x k ok, o.type, o.pos, o.after, o.guard⟩) (s := Instr.lookup t (a.eval x) (a.eval k) ok) rfl k1
        exact done_pure hS hF (dstOKb_is hdd) hrun (x := .v _) k2 rfl
      · simp at hop
    · cases ht
  case h_24 t x k v m x' k' v' hopp =>
    simp only [Bool.and_eq_true, beq_iff_eq] at hc
    obtain ⟨⟨⟨⟨hdd, hx⟩, hk⟩, hv⟩, ht⟩ := hc
    subst hdd
    unfold mapTyOK at ht
    split at ht
    · rename_i kt et hu
      simp only [opS] at hop
      split at hop
      · rename_i id kv y h1 h2 h3
        split at hop
        · rename_i hcond
          split at hop
          · rename_i es hg
            split at hop
            · rename_i i y0 hf
              simp only [Option.some.injEq] at hop
              subst hop
              refine wp_of_done hd hK ?_
              obtain ⟨res, h4, h5⟩ := mpu_done hS hF rfl hu ht hcond.1 hcond.2 hg hf (av_rel hF hx h1) (av_rel hF hk h2) (av_rel hF hv h3)
              rw [← h4] at h5
              rw [ho, hopp]
              exact h5
            · rename_i hf
              simp only [Option.some.injEq] at hop
              subst hop
              refine wp_of_done hd hK ?_
              obtain ⟨res, h4, h5⟩ := mpu_done hS hF rfl hu ht hcond.1 hcond.2 hg hf (av_rel hF hx h1) (av_rel hF hk h2) (av_rel hF hv h3)
              rw [← h4] at h5
              rw [ho, hopp]
              exact h5
            · simp at hop
          · simp at hop
        · simp at hop
      · simp at hop
    · cases ht
  case h_25 =>
    rename_i aop0 _ _ _ _ _ _ _ _ _ _ _ _ _ _ _ _ _ _ _ _ _ _ _ _ _ _
    simp only [Bool.and_eq_true] at hc
    obtain ⟨hdd, hc⟩ := hc
    have key : ∀ x, opv env H aop0 = some x → out = .go .nrm (setDst d x env) H → o.wp C.P a w K Q := fun x hx he => by
      subst he
      obtain ⟨v, h1, h2, h3⟩ := opv_sim hS hF hc (opv_base hx)
      exact wp_of_done hd hK (done_pure hS hF (dstOKb_is hdd) h1 h2 h3)
    have hpure : opS cl d env H aop0 = match opv env H aop0 with
        | some x => some (.go .nrm (setDst d x env) H)
        | none => none := by
      have hpv := chkPure_pv hc
      cases aop0 <;> first | rfl | (simp only [AOp.base, isPv, Bool.false_eq_true] at hpv)
    rw [hpure] at hop
    split at hop
    · rename_i x hx
      simp only [Option.some.injEq] at hop
      exact key x hx hop.symm
    · simp at hop
end
end Ey
