/- Functions: what a call answers in ours, it answers in the model. -/
import Derived.Test.YtjcnpcdcpfbpdaaGreatDoorEySimD
namespace Ey
open Go Go.RowKit

def chkRes (P : Program) : List ResultVar → List ARes → Bool
  | [], [] => true
  | .tmp t :: rs, .tmp u :: us => t == u && chkRes P rs us
  | .cell s t :: rs, .cell s' sz ag :: us => s == s' && tyOK P t sz ag && chkRes P rs us
  | _, _ => false

def chkFn (C : Cx) (pf : Nat → Bool) (fid : FuncId) (af : AFn) : Bool :=
  match C.P.funcs[fid]? with
  | some fn => match fn.body with
    | some c => decide (af.params ≤ fn.ntmps) && chkRes C.P fn.results.toList af.results && (chkCode C pf fn.ntmps (lvsOf af.code) c af.code || chkD C pf fn.ntmps (lvsOf af.code) c af.code)
    | none => false
  | none => false

section
variable {C : Cx} {g : Gh} {own : Own} {B : Nat} {H : Heap} {w : World} {env : Env} {a : Act} {n : Nat} {L : List Nat}

theorem asAddr_of_sure {P : Program} {t : TypeId} {x v : Value} (h : (Instr.loadAt t x).run P w = .ok v w) : (asAddr x >>= fun p => loadVar t p).run P w = .ok v w := by
  cases x
  case pointer p =>
    cases p with
    | none => simp [Instr.loadAt, Instr.sureAddr] at h
    | some q => simpa [Instr.loadAt, Instr.sureAddr, asAddr] using h
  all_goals simp [Instr.loadAt, Instr.sureAddr] at h

def resVal (tmps : Array Value) : ResultVar → Sem Value
  | .tmp t => pure (tmps.getD t undef)
  | .cell a t => do loadVar t (← asAddr (tmps.getD a undef))

theorem res_one (hS : St C g own B H w) (hF : Fr C g own w env a.tmps n L) {r : ResultVar} {u : ARes} (hc : chkRes C.P [r] [u] = true) {z : AV} (hz : resS env H u = some z) :
    ∃ v, (resVal a.tmps r).run C.P w = .ok v w ∧ VR C g z v := by
  cases r with
  | tmp t =>
    cases u with
    | tmp t' =>
      simp only [chkRes, Bool.and_true, beq_iff_eq] at hc
      subst hc
      have h := hF.slots t
      simp only [SlotOK] at h
      simp only [resS] at hz
      split at hz
      · rename_i x hx
        simp only [Option.some.injEq] at hz
        subst hz
        rw [hx] at h
        exact ⟨tmOf a.tmps t, by simp [resVal, tmOf], h⟩
      · cases hz
    | cell s sz ag => simp [chkRes] at hc
  | cell s t =>
    cases u with
    | tmp t' => simp [chkRes] at hc
    | cell s' sz ag =>
      simp only [chkRes, Bool.and_true, Bool.and_eq_true, beq_iff_eq] at hc
      obtain ⟨rfl, ht⟩ := hc
      simp only [resS] at hz
      obtain ⟨v, h1, h2⟩ := ld_sim (x := .tmp s) hS hF (tyIs ht) (by simp [opdOK]) hz
      exact ⟨v, asAddr_of_sure h1, h2⟩

theorem res_all (hS : St C g own B H w) (hF : Fr C g own w env a.tmps n L) : ∀ {rs : List ResultVar} {us : List ARes}, chkRes C.P rs us = true → ∀ {zs : List AV}, resAll env H us = some zs →
    ∃ vs : List Value, (rs.mapM (resVal a.tmps)).run C.P w = .ok vs w ∧ rs.length = vs.length ∧ us.length = vs.length ∧ zs.length = vs.length ∧ ∀ (i : Nat) (x : AV) (y : Value), zs[i]? = some x → vs[i]? = some y → VR C g x y
  | [], [], _, zs, hz => by
    simp only [resAll, Option.some.injEq] at hz
    subst hz
    exact ⟨[], by simp, rfl, rfl, rfl, fun i x y hx => by simp at hx⟩
  | [], _ :: _, hc, _, _ => by simp [chkRes] at hc
  | r :: rs, us, hc, zs, hz => by
    have hsplit : ∃ u us', us = u :: us' ∧ chkRes C.P [r] [u] = true ∧ chkRes C.P rs us' = true := by
      cases us with
      | nil => cases r <;> simp [chkRes] at hc
      | cons u us' =>
        refine ⟨u, us', rfl, ?_⟩
        cases r <;> cases u <;> simp_all [chkRes]
    obtain ⟨u, us', rfl, h1, h2⟩ := hsplit
    simp only [resAll] at hz
    cases hu : resS env H u with
    | none => rw [hu] at hz; cases hz
    | some z =>
      rw [hu] at hz
      cases ht : resAll env H us' with
      | none => rw [ht] at hz; cases hz
      | some zs' =>
        rw [ht] at hz
        simp only [Option.map_some, Option.some.injEq] at hz
        subst hz
        obtain ⟨v, k1, k2⟩ := res_one hS hF h1 hu
        obtain ⟨vs, m1, m2, m3, m4, m5⟩ := res_all hS hF h2 ht
        refine ⟨v :: vs, by simp [List.mapM_cons, k1, m1], by simp [m2], by simp [m3], by simp [m4], fun i x y hx hy => ?_⟩
        cases i with
        | zero => simp at hx hy; exact hx ▸ hy ▸ k2
        | succ i => simp at hx hy; exact m5 i x y hx hy

theorem res_run (hS : St C g own B H w) (hF : Fr C g own w env a.tmps n L) {fn : Func} {us : List ARes} (hc : chkRes C.P fn.results.toList us = true) {z : AV} (hz : resOf env H us = some z) :
    ∃ v, (results fn a.tmps).run C.P w = .ok v w ∧ VR C g z v := by
  have hrun : ∀ vs : List Value, (fn.results.toList.mapM (resVal a.tmps)).run C.P w = .ok vs w → (results fn a.tmps).run C.P w = .ok (if h : vs.length = 1 then vs[0] else .tuple vs.toArray) w := by
    intro vs h
    have he : fn.results = fn.results.toList.toArray := by simp
    unfold results
    rw [he, List.mapM_toArray]
    simp only [Sem.run_bind, Sem.run_map]
    rw [show ∀ f : ResultVar → Sem Value, f = resVal a.tmps → List.mapM f fn.results.toList = List.mapM (resVal a.tmps) fn.results.toList from fun f e => by rw [e], h]
    · simp
    · funext x; cases x <;> rfl
  have hall : ∀ zs, resAll env H us = some zs → us.length ≠ 1 → z = .tup zs → ∃ v, (results fn a.tmps).run C.P w = .ok v w ∧ VR C g z v := by
    intro zs hzs hl hzt
    obtain ⟨vs, h1, h2, h3, h4, h5⟩ := res_all hS hF hc hzs
    refine ⟨_, hrun vs h1, ?_⟩
    rw [dif_neg (by omega), hzt]
    exact .tup _ _ (by simpa using h4) (fun i x y hx hy => h5 i x y hx (by simpa using hy))
  unfold resOf at hz
  split at hz
  · rename_i u
    obtain ⟨vs, h1, h2, h3, h4, h5⟩ := res_all hS hF hc (zs := [z]) (by simp [resAll, hz])
    simp at h3
    refine ⟨_, hrun vs h1, ?_⟩
    rw [dif_pos h3.symm]
    exact h5 0 z _ (by simp) (by simp)
  · rename_i hne
    cases hx : resAll env H us with
    | none => rw [hx] at hz; cases hz
    | some zs =>
      rw [hx] at hz
      simp only [Option.map_some, Option.some.injEq] at hz
      refine hall zs hx (fun hl => ?_) hz.symm
      obtain ⟨u, rfl⟩ := List.length_eq_one_iff.1 hl
      exact hne u rfl

mutual
theorem under_all {n : Nat} : ∀ {xs : List AV}, (∀ x ∈ xs, x.under n = true) → AV.underAll n xs = true
  | [], _ => rfl
  | x :: xs, h => by
    simp only [AV.underAll, Bool.and_eq_true]
    exact ⟨h x (by simp), under_all fun y hy => h y (by simp [hy])⟩
end

theorem under_of_cells {n : Nat} {x : AV} (ht : x.cells ≠ []) (h : ∀ (j : Nat) (y : AV), x.cells[j]? = some y → y.under n = true) : x.under n = true := by
  by_cases ho : x.one = true
  · rw [AV.one_cells ho] at h
    exact h 0 x (by simp)
  · obtain ⟨cs, rfl⟩ := AV.not_one (by simpa using ho) ht
    simp only [AV.under]
    refine under_all fun y hy => ?_
    obtain ⟨j, hj⟩ := List.mem_iff_getElem?.1 hy
    exact h j y hj

/-- a value that is there holds heap numbers that are given out -/
theorem VR.under {N : Nat} (hn : ∀ id, N ≤ id → g.ob id = none ∧ ∀ k, g.ar id k = none) {x : AV} {v : Value} (r : VR C g x v) : x.under N = true := by
  have hob : ∀ {id p}, g.ob id = some p → id < N := fun {id p} h => Nat.lt_of_not_le fun hl => by rw [(hn id hl).1] at h; cases h
  have har : ∀ {id k p}, g.ar id k = some p → id < N := fun {id k p} h => Nat.lt_of_not_le fun hl => by rw [(hn id hl).2 k] at h; cases h
  induction r with
  | list xs b o cap sz f hc hsz hne hG _ ih =>
    simp only [AV.under]
    refine under_all fun x hx => ?_
    obtain ⟨i, hi⟩ := List.mem_iff_getElem?.1 hx
    exact under_of_cells (hne i x hi) fun j y hy => ih i j x y hi hy
  | msNil id sz h => simpa [AV.under] using har h
  | ms id ver lo len b o cap sz a h hl ha => simpa [AV.under] using har h
  | imm v b o f h1 hne hG _ ih => simp only [AV.under]; exact under_of_cells hne ih
  | ptr id off b o h => simpa [AV.under] using hob h
  | mp id b h => simpa [AV.under] using hob h
  | ap id ver i off b o cap sz h => simpa [AV.under] using har h
  | fn f cap fid vs h hl _ ih =>
    simp only [AV.under]
    refine under_all fun x hx => ?_
    obtain ⟨i, hi⟩ := List.mem_iff_getElem?.1 hx
    have hlt := (List.getElem?_eq_some_iff.1 hi).1
    exact ih i x (vs[i]'(by omega)) hi (by simp)
  | iface t v tid w h _ ih => simp only [AV.under]; exact ih
  | agg cs ws hl h1 _ ih =>
    simp only [AV.under]
    refine under_all fun x hx => ?_
    obtain ⟨i, hi⟩ := List.mem_iff_getElem?.1 hx
    have hlt := (List.getElem?_eq_some_iff.1 hi).1
    exact ih i x (ws[i]'(by omega)) hi (by simp)
  | tup cs ws hl _ ih =>
    simp only [AV.under]
    refine under_all fun x hx => ?_
    obtain ⟨i, hi⟩ := List.mem_iff_getElem?.1 hx
    have hlt := (List.getElem?_eq_some_iff.1 hi).1
    exact ih i x (ws[i]'(by omega)) hi (by simp)
  | _ => simp [AV.under, AV.underAll]

/-- what a call gives back of the owners: nothing that it made for itself -/
def dropOwn (N : Nat) (own : Own) : Own := fun b o => match own b o with
  | .slot _ => .free
  | .heap id => if id < N then .heap id else .free
  | x => x

theorem dropOwn_eq {N : Nat} {own : Own} {b o : Nat} {x : Owner} (h : own b o = x) (hs : ∀ s, x ≠ .slot s) (hh : ∀ id, x = .heap id → id < N) : dropOwn N own b o = x := by
  unfold dropOwn
  rw [h]
  cases x with
  | slot s => exact absurd rfl (hs s)
  | heap id => simp [hh id rfl]
  | free => rfl
  | imm => rfl
  | frgn => rfl

theorem dropOwn_heap {N : Nat} {own : Own} {b o : Nat} {id : Nat} (h : dropOwn N own b o = .heap id) : own b o = .heap id := by
  unfold dropOwn at h
  split at h
  · cases h
  · rename_i id' h'
    split at h
    · rw [h']; exact h
    · cases h
  · exact h

theorem noSlots_drop (N : Nat) (own : Own) : noSlots (dropOwn N own) := by
  intro b o s h
  unfold dropOwn at h
  split at h
  · cases h
  · split at h <;> cases h
  · rename_i h1 h2
    exact h1 s h

variable {g' : Gh} {own' : Own} {H' : Heap} {w' : World}

theorem St.drop (hS : St C g own B H w) : St C g (dropOwn H.next own) B H w where
  imm := fun b o v h => ⟨dropOwn_eq (hS.imm b o v h).1 (by simp) (by simp), (hS.imm b o v h).2⟩
  obj := fun id cs h => by
    have hid : id < H.next := Nat.lt_of_not_le fun hl => by rw [(hS.next id hl).1] at h; cases h
    obtain ⟨b, o, h1, h2⟩ := hS.obj id cs h
    exact ⟨b, o, h1, cellsAt_own (fun o' ho => dropOwn_eq ho (by simp) (fun _ e => by simp at e; exact e ▸ hid)) h2⟩
  arr := fun id nl sz xs h => by
    have hid : id < H.next := Nat.lt_of_not_le fun hl => by rw [(hS.next id hl).1] at h; cases h
    obtain ⟨⟨ph, h1, h2⟩, h3⟩ := hS.arr id nl sz xs h
    exact ⟨⟨ph, h1, arrAt_own (fun b o' ho => dropOwn_eq ho (by simp) (fun _ e => by simp at e; exact e ▸ hid)) h2⟩, h3⟩
  mp := fun id es h => by
    have hid : id < H.next := Nat.lt_of_not_le fun hl => by rw [(hS.next id hl).1] at h; cases h
    exact (hS.mp id es h).step (.refl g) (fun _ hb => dropOwn_eq hb (by simp) (fun _ e => by simp at e; exact e ▸ hid)) fun _ _ _ _ hm => hm
  next := hS.next
  ext := fun b o => by
    rcases hS.ext b o with h | h
    · exact .inl (dropOwn_eq h (by simp) (by simp))
    · exact .inr h
  base := fun b o ⟨x, hx⟩ => by
    rcases hx with hx | hx
    · exact hS.base b o ⟨x, .inl (dropOwn_heap hx)⟩
    · exact absurd hx (noSlots_drop _ _ b o x)
  size := hS.size
  ro := hS.ro
  gl := hS.gl

/-- out of a call that keeps what it made -/
theorem keep_call (hS : St C g own B H w) (hE : Ext g own B H w g' own' H' w') (hS' : St C g' own' B H' w') :
    Ext g own B H w g' (dropOwn H'.next own') { H' with ro := H.ro } w' ∧ St C g' (dropOwn H'.next own') B { H' with ro := H.ro } w' := by
  have hd := hS'.drop
  refine ⟨⟨hE.le, hE.ob, hE.ar, hE.get, rfl, hE.next, fun b o h => ?_, hE.below⟩, ⟨hd.imm, hd.obj, hd.arr, hd.mp, hd.next, hd.ext, hd.base, hd.size, ?_, hd.gl⟩⟩
  · obtain ⟨h1, h2, h3⟩ := hE.fr b o h
    exact ⟨dropOwn_eq h1 (by simp) (by simp), h2, h3⟩
  · have h1 := hE.next
    have h2 := hS.ro
    show H.ro ≤ H'.next
    omega

/-- out of a call that gives its memory up -/
theorem pure_call (hS : St C g own B H w) (hE : Ext g own B { H with ro := H.next } w g' own' H' w') (hS' : St C g' own' B H' w') :
    g'.On H.next { G := g'.G, ob := g.ob, ar := g.ar } ∧
    Ext g own B H w { G := g'.G, ob := g.ob, ar := g.ar } (dropOwn H.next own') H w' ∧ St C { G := g'.G, ob := g.ob, ar := g.ar } (dropOwn H.next own') B H w' := by
  have hon : g'.On H.next { G := g'.G, ob := g.ob, ar := g.ar } := ⟨fun _ _ _ h => h, fun id p hi h => by rw [← hE.ob id hi]; exact h, fun id k p hi h => by rw [← hE.ar id hi k]; exact h⟩
  have hu : ∀ {x v}, VR C g x v → x.under H.next = true := fun r => VR.under (fun id hi => (hS.next id hi).2) r
  have hid : ∀ {id x}, H.get id = some x → id < H.next := fun {id x} h => Nat.lt_of_not_le fun hl => by rw [(hS.next id hl).1] at h; cases h
  have hkeep : ∀ {id b o}, id < H.next → own' b o = .heap id → dropOwn H.next own' b o = .heap id := fun {id b o} hi h => dropOwn_eq h (by simp) (fun _ e => by simp at e; exact e ▸ hi)
  refine ⟨hon, ⟨⟨hE.le.G, fun _ _ h => h, fun _ _ _ h => h⟩, fun _ _ => rfl, fun _ _ _ => rfl, fun _ _ => rfl, rfl, Nat.le_refl _, fun b o h => ?_, hE.below⟩, ?_⟩
  · obtain ⟨h1, h2, h3⟩ := hE.fr b o h
    exact ⟨dropOwn_eq h1 (by simp) (by simp), h2, h3⟩
  · refine ⟨fun b o v h => ⟨dropOwn_eq (hS'.imm b o v h).1 (by simp) (by simp), (hS'.imm b o v h).2⟩, fun id cs h => ?_, fun id nl sz xs h => ?_, fun id es h => ?_, hS.next, fun b o => ?_, fun b o ⟨x, hx⟩ => ?_, hS'.size, hS.ro, hS'.gl⟩
    · have hi := hid h
      obtain ⟨b0, o0, h1, h2⟩ := hS.obj id cs h
      obtain ⟨b, o, k1, k2⟩ := hS'.obj id cs ((hE.get id hi).trans h)
      refine ⟨b, o, by rw [← hE.ob id hi]; exact k1, k2.1, fun j y hy => ?_⟩
      obtain ⟨m1, v, m2, m3, m4⟩ := k2.2 j y hy
      obtain ⟨_, v0, _, _, r0⟩ := h2.2 j y hy
      exact ⟨hkeep hi m1, v, m2, m3, m4.on hon (hu r0)⟩
    · have hi := hid h
      obtain ⟨⟨ph0, h1, h2⟩, h3⟩ := hS.arr id nl sz xs h
      obtain ⟨⟨ph, k1, k2⟩, _⟩ := hS'.arr id nl sz xs ((hE.get id hi).trans h)
      refine ⟨⟨ph, by rw [← hE.ar id hi]; exact k1, ?_⟩, h3⟩
      have hph : ph = ph0 := by
        have := hE.ar id hi xs.length
        rw [k1, h1] at this
        simpa using this
      subst hph
      obtain ⟨p1, p2⟩ := k2
      obtain ⟨q1, q2⟩ := h2
      refine ⟨p1, ?_⟩
      cases hb : ph.base with
      | none => rw [hb] at p2; exact p2
      | some bo =>
        obtain ⟨b, o⟩ := bo
        rw [hb] at p2 q2
        obtain ⟨x1, x2, x3, x4, x5⟩ := p2
        obtain ⟨_, _, _, _, y5⟩ := q2
        refine ⟨x1, x2, x3, fun k hk => ⟨hkeep hi (x4 k hk).1, (x4 k hk).2⟩, fun i x j y hx hy => ?_⟩
        obtain ⟨v, z1, z2⟩ := x5 i x j y hx hy
        obtain ⟨v0, _, r0⟩ := y5 i x j y hx hy
        exact ⟨v, z1, z2.on hon (hu r0)⟩
    · have hi := hid h
      obtain ⟨b0, h1, h2, ms0, c0, h3, h4⟩ := hS.mp id es h
      obtain ⟨b, k1, k2, ms, c, k3, k4⟩ := hS'.mp id es ((hE.get id hi).trans h)
      refine ⟨b, by rw [← hE.ob id hi]; exact k1, hkeep hi k2, ms, c, k3, k4.1, fun i x m hx hm => ?_⟩
      have hi0 : i < ms0.toList.length := by have := (List.getElem?_eq_some_iff.1 hx).1; have := h4.1; simp; omega
      obtain ⟨r1, r2⟩ := h4.2 i x _ hx (List.getElem?_eq_getElem hi0)
      obtain ⟨q1, q2⟩ := k4.2 i x m hx hm
      exact ⟨q1.on hon (hu r1), q2.on hon (hu r2)⟩
    · rcases hS'.ext b o with h | h
      · exact .inl (dropOwn_eq h (by simp) (by simp))
      · exact .inr h
    · rcases hx with hx | hx
      · exact hS'.base b o ⟨x, .inl (dropOwn_heap hx)⟩
      · exact absurd hx (noSlots_drop _ _ b o x)

theorem initEnv_get : ∀ (vs : List AV) (i s : Nat), (initEnv i vs).get s = if i ≤ s then (match vs[s - i]? with | some x => .v x | none => .no) else .no
  | [], i, s => by simp [initEnv, Env.get]
  | v :: r, i, s => by
    have ih := initEnv_get r (i + 1) s
    simp only [initEnv, Env.get, ih]
    by_cases h : s = i
    · subst h; simp
    · rw [if_neg h]
      by_cases hle : i + 1 ≤ s
      · rw [if_pos hle, if_pos (by omega)]
        have : s - i = (s - (i + 1)) + 1 := by omega
        rw [this, List.getElem?_cons_succ]
      · rw [if_neg hle, if_neg (by omega)]

theorem fr_init (hgl : ∀ b o v, C.gl b o = some v → g.G b o = some v) {vs : List AV} {ws : Array Value} (hl : vs.length = ws.size) (hn : ws.size ≤ n) (hv : ∀ (i : Nat) (x : AV) (y : Value), vs[i]? = some x → ws[i]? = some y → VR C g x y) :
    Fr C g own w (initEnv 0 vs) (ws ++ Array.replicate (n - ws.size) undef) n L where
  size := by simp; omega
  gl := hgl
  slots := fun s => by
    simp only [SlotOK, initEnv_get, Nat.zero_le, if_true, Nat.sub_zero]
    cases hx : vs[s]? with
    | none => trivial
    | some x =>
      have hlt : s < ws.size := by have := (List.getElem?_eq_some_iff.1 hx).1; omega
      have he : tmOf (ws ++ Array.replicate (n - ws.size) undef) s = ws[s] := by
        unfold tmOf
        rw [Array.getD_eq_getD_getElem?, Array.getElem?_append_left hlt]
        simp [hlt]
      show VR C g x _
      rw [he]
      exact hv s x _ hx (by simp [hlt])
  lvs := fun s cs h => by
    rw [initEnv_get] at h
    simp only [Nat.zero_le, if_true, Nat.sub_zero] at h
    split at h <;> cases h

end

section
variable {C : Cx}

/-- a deferred function value's call, that recovers -/
theorem clo_calls (hfun : FunsOK C) {cl : Caller} (hcl : CallsOK C cl) {pf : Nat → Bool} (hpure : PureC pf cl) {fid : FuncId} {nc rs : Nat} {clo : ACode} (hc : chkClo C pf fid nc rs clo = true) {cs : List AV} (hnc : cs.length = nc) {m : Nat} {pv : AV} {H H2 : Heap} {q : Ex} {e2 : Env}
    (hx : exec m cl clo ((rs, .v pv) :: initEnv 0 cs) H = some (.go q e2 H2)) (hq : ∀ i, q ≠ .exit i) {g : Gh} {own : Own} {B : Nat} {w : World} {vs : Array Value} (hS : St C g own B H w) (hl : cs.length = vs.size)
    (hv : ∀ (i : Nat) (x : AV) (y : Value), cs[i]? = some x → vs[i]? = some y → VR C g x y) {u : FrameMode} (hu : (u = .returning ∧ pv = .niliface) ∨ ∃ v, u = .panicking [{ v := v, recovered := false }] ∧ VR C g pv v) :
    CallsD C.P fid vs u w fun e u' w' => (∃ v, e = .returned v) ∧ settle u' = .returning ∧ ∃ g' own', noSlots own' ∧ Ext g own B H w g' own' H2 w' ∧ St C g' own' B H2 w' := by
  unfold chkClo at hc
  split at hc
  · cases hc
  · rename_i fn hfn
    split at hc
    · rename_i id ops draw c hb
      split at hc
      · rename_i is ac
        simp only [Bool.and_eq_true, Bool.not_eq_true', decide_eq_true_eq] at hc
        obtain ⟨⟨⟨hdraw, hres⟩, hn⟩, hc⟩ := hc
        subst hdraw
        split at hc
        · rename_i o os hops
          simp only [Bool.and_eq_true, beq_iff_eq] at hc
          obtain ⟨⟨⟨⟨⟨h1, h2⟩, h3⟩, h4⟩, h5⟩, h6⟩ := hc
          refine callsD_of_wpS hfn hb fun c₀ cs₀ hmode => wpS_seq (wpS_region ?_)
          have hsz : ops.size = os.length + 1 := by rw [← Array.length_toList, hops]; simp
          have hget : ∀ j, ops[j]? = (o :: os)[j]? := fun j => by rw [← hops, Array.getElem?_toList]
          have hrng : List.range ops.size = 0 :: List.range' 1 os.length := by rw [hsz, List.range_eq_range', List.range'_succ]
          rw [hrng]
          have hrun : ∀ {a : Act}, (execOp a.eval o).run C.P w = .ok .recover w := fun {a} => by
            split at h4
            · rename_i c' hop
              split at h4
              · rename_i hcal
                obtain ⟨dst, op, type, pos, after, guard⟩ := o
                simp only at hop
                subst hop
                obtain ⟨callee, args, ats⟩ := c'
                simp only at hcal
                subst hcal
                simp [execOp, resolve, invoke, builtin]
              · cases h4
            · cases h4
          have hwt : ∀ {a : Act}, Region.wanted o (yielded ops a.tmps) = true := fun {a} => by simp [Region.wanted, h2]
          have hres0 : fn.results = #[] := by simpa using hres
          have fin : ∀ (u' : FrameMode), settle u' = .returning → ∀ e a w', OutR C g own B H w fn.ntmps (lvsOf (.seq (.ops is) ac)) [] (.go q e2 H2) e a w' →
              bodyPostS C.P fn c₀ cs₀ (fun e u' w' => (∃ v, e = .returned v) ∧ settle u' = .returning ∧ ∃ g' own', noSlots own' ∧ Ext g own B H w g' own' H2 w' ∧ St C g' own' B H2 w') e a ({ c₀ with mode := u' } :: cs₀) w' := by
            intro u' hset e a w' ⟨he, hd, g2, own2, hE2, hS2, _⟩
            have hro : ({ H2 with ro := H.ro } : Heap) = H2 := by rw [← hE2.ro]
            obtain ⟨k1, k2⟩ := keep_call hS hE2 hS2
            rw [hro] at k1 k2
            have hend : ∃ u'', ({ c₀ with mode := u' } :: cs₀ : List Frame) = { c₀ with mode := u'' } :: cs₀ ∧ ∃ v, (results fn a.tmps).run C.P w' = .ok v w' ∧ ((∃ x, Ending.returned v = .returned x) ∧ settle u'' = .returning ∧ ∃ g' own', noSlots own' ∧ Ext g own B H w g' own' H2 w' ∧ St C g' own' B H2 w') :=
              ⟨u', rfl, _, results_none hres0 _ _ _, ⟨_, rfl⟩, hset, _, _, noSlots_drop _ _, k1, k2⟩
            subst he
            cases q with
            | nrm => exact ⟨hd, hend⟩
            | ret => exact ⟨hd, hend⟩
            | exit i => exact absurd rfl (hq i)
          have key : ∀ (rv : Value) (u' : FrameMode), VR C g pv rv → settle u' = .returning →
              wpOpsS C.P ops (Exit.thenS (c.wpS C.P (bodyPostS C.P fn c₀ cs₀ (fun e u' w' => (∃ v, e = .returned v) ∧ settle u' = .returning ∧ ∃ g' own', noSlots own' ∧ Ext g own B H w g' own' H2 w' ∧ St C g' own' B H2 w')))
                (bodyPostS C.P fn c₀ cs₀ (fun e u' w' => (∃ v, e = .returned v) ∧ settle u' = .returning ∧ ∃ g' own', noSlots own' ∧ Ext g own B H w g' own' H2 w' ∧ St C g' own' B H2 w'))) (List.range' 1 os.length)
                (({ tmps := vs ++ Array.replicate (fn.ntmps - vs.size) undef, defers := [] } : Act).put (some rs) rv) ({ c₀ with mode := u' } :: cs₀) w := by
            intro rv u' hrv hset
            have hF : Fr C g own w ((rs, .v pv) :: initEnv 0 cs) (({ tmps := vs ++ Array.replicate (fn.ntmps - vs.size) undef, defers := [] } : Act).put (some rs) rv).tmps fn.ntmps (lvsOf (.seq (.ops is) ac)) :=
              Fr.put (a := { tmps := vs ++ Array.replicate (fn.ntmps - vs.size) undef, defers := [] }) (fr_init hS.gl hl (by omega) hv) (dstOKb_is h3) (x := .v pv) hrv rfl
            simp only [exec] at hx
            cases ho : opsS cl is ((rs, .v pv) :: initEnv 0 cs) H with
            | none => rw [ho] at hx; cases hx
            | some o1 =>
              rw [ho] at hx
              refine wpOpsS_of_list (Q := OutR C g own B H w fn.ntmps (lvsOf (.seq (.ops is) ac)) [] o1) outR_in (fun e a w' hq1 => ?_) os 1 (fun j => by rw [hget, Nat.add_comm]; simp) _ _ (ops_sim hfun hcl h5 ho (Ext.refl g own B H w) hS hF rfl)
              cases o1 with
              | go x e' H' =>
                cases x with
                | nrm =>
                  obtain ⟨rfl, hd1, g1, own1, hE1, hS1, hF1⟩ := hq1
                  exact wpS_of_wp (wp_mono (exec_sim hfun hcl hpure h6 hx hE1 hS1 hF1 hd1) fun e a w' h => fin u' hset e a w' h)
                | ret =>
                  simp only [Option.some.injEq] at hx
                  rw [hx] at hq1
                  have hf := fin u' hset e a w' hq1
                  obtain ⟨he, _⟩ := hq1
                  have : e = .ret := by rw [he]; cases hx; rfl
                  subst this
                  exact hf
                | exit i =>
                  simp only [Option.some.injEq] at hx
                  cases hx
                  exact absurd rfl (hq i)
              | pan v e' H' => simp only [Option.some.injEq] at hx; cases hx
          have h0 : ops[0]? = some o := by rw [hget]; rfl
          refine wpOpsS_recover h0 hwt hrun ?_
          rw [h1]
          rcases hu with ⟨rfl, rfl⟩ | ⟨v, rfl, hv'⟩
          · have hrec : recoverD (c₀ :: cs₀) = none := by simp [recoverD, hmode]
            rw [hrec]
            have := key .nilIface .returning .niliface rfl
            have hc0 : ({ c₀ with mode := .returning } : Frame) = c₀ := by rw [← hmode]
            rw [hc0] at this
            exact this
          · have hrec : recoverD (c₀ :: cs₀) = some (v, { c₀ with mode := .panicking [{ v := v, recovered := true }] } :: cs₀) := by simp [recoverD, hmode]
            rw [hrec]
            exact key v (.panicking [{ v := v, recovered := true }]) hv' rfl
        · cases hc
      · cases hc
    · cases hc

theorem post_D {P : Program} {fn : Func} {R : Ending → World → Prop} {e : Exit} {a : Act} {w : World} (h : bodyPost P fn R e a w) : bodyPostD P fn R e a w := by
  cases e with
  | normal => obtain ⟨hd, h⟩ := h; show Leaves P fn a.tmps R a.defers .returning w; rw [hd]; exact h
  | ret => obtain ⟨hd, h⟩ := h; show Leaves P fn a.tmps R a.defers .returning w; rw [hd]; exact h
  | panic ch => obtain ⟨hd, h⟩ := h; show Leaves P fn a.tmps R a.defers (.panicking ch) w; rw [hd]; exact h
  | outgrown => exact h
  | exit i => exact h.elim
  | goto l => exact h.elim

theorem dfrS_inv {clo : AV → Heap → Option Out} {o : Out} {out : Out} (h : dfrS clo (some o) = some out) : ∃ pv e' H' q e2 H2, clo pv H' = some (.go q e2 H2) ∧ (∀ i, q ≠ .exit i) ∧ out = .go .ret e' H2 ∧
    ((∃ x, o = .go x e' H' ∧ (x = .nrm ∨ x = .ret) ∧ pv = .niliface) ∨ o = .pan pv e' H') := by
  have back : ∀ {pv e' H'}, backS e' (clo pv H') = some out → ∃ q e2 H2, clo pv H' = some (.go q e2 H2) ∧ (∀ i, q ≠ .exit i) ∧ out = .go .ret e' H2 := fun {pv e' H'} hb => by
    unfold backS at hb
    split at hb
    · cases hb
    · rename_i q e2 H2 hq hx
      simp only [Option.some.injEq] at hb
      exact ⟨q, e2, H2, hx, fun i hi => hq i hi, hb.symm⟩
    · cases hb
  rcases o with ⟨x, e', H'⟩ | ⟨v, e', H'⟩
  · cases x with
    | nrm => obtain ⟨q, e2, H2, h1, h2, h3⟩ := back h; exact ⟨_, e', H', q, e2, H2, h1, h2, h3, .inl ⟨_, rfl, .inl rfl, rfl⟩⟩
    | ret => obtain ⟨q, e2, H2, h1, h2, h3⟩ := back h; exact ⟨_, e', H', q, e2, H2, h1, h2, h3, .inl ⟨_, rfl, .inr rfl, rfl⟩⟩
    | exit i => cases h
  · obtain ⟨q, e2, H2, h1, h2, h3⟩ := back h
    exact ⟨_, e', H', q, e2, H2, h1, h2, h3, .inr rfl⟩

theorem fnD_sim (hfun : FunsOK C) {cl : Caller} (hcl : CallsOK C cl) {pf : Nat → Bool} (hpure : PureC pf cl) {fn : Func} {R : Ending → World → Prop} {m : Nat} {out : Out} {n : Nat} {L : List Nat} {g0 : Gh} {own0 : Own} {B : Nat} {H0 : Heap} {w0 : World}
    (hR : ∀ e a1 w1, OutR C g0 own0 B H0 w0 n L [] out e a1 w1 → bodyPost C.P fn R e a1 w1) : ∀ {ac : ACode} {c : Code} {g : Gh} {own : Own} {H : Heap} {w : World} {env : Env} {a : Act},
    chkD C pf n L c ac = true → exec m cl ac env H = some out → Ext g0 own0 B H0 w0 g own H w → St C g own B H w → Fr C g own w env a.tmps n L → a.defers = [] → c.wp C.P (bodyPostD C.P fn R) a w := by
  intro ac
  induction ac with
  | seq x' y' ihx ihy =>
    intro c g own H w env a hc ho hE hS hF hdf
    cases c <;> simp only [chkD] at hc <;> try (cases hc; done)
    rename_i x y
    simp only [Bool.and_eq_true] at hc
    simp only [exec] at ho
    cases hx : exec m cl x' env H with
    | none => rw [hx] at ho; cases ho
    | some o1 =>
      rw [hx] at ho
      refine wp_seq (wp_mono (exec_sim hfun hcl hpure hc.1 hx hE hS hF hdf) fun e a1 w1 hq => ?_)
      cases o1 with
      | go q e' H' =>
        cases q with
        | nrm =>
          obtain ⟨rfl, hd1, g1, own1, hE1, hS1, hF1⟩ := hq
          exact ihy hc.2 ho hE1 hS1 hF1 hd1
        | exit i =>
          simp only [Option.some.injEq] at ho; subst ho
          have := post_D (hR _ _ _ hq)
          obtain ⟨rfl, _⟩ := hq
          exact this
        | ret =>
          simp only [Option.some.injEq] at ho; subst ho
          have := post_D (hR _ _ _ hq)
          obtain ⟨rfl, _⟩ := hq
          exact this
      | pan v e' H' =>
        simp only [Option.some.injEq] at ho; subst ho
        have := post_D (hR _ _ _ hq)
        obtain ⟨pv, rfl, _⟩ := hq
        exact this
  | dfr s f cap rs body clo ihb ihc =>
    intro c g own H w env a hc ho hE hS hF hdf
    unfold chkD at hc
    split at hc
    · rename_i h; cases h
    · rename_i id ops draw y s' f' cap' rs' body' clo' heq
      cases heq
      simp only [Bool.and_eq_true, Bool.not_eq_true'] at hc
      obtain ⟨⟨⟨hdraw, h1⟩, h2⟩, h3⟩ := hc
      subst hdraw
      simp only [exec] at ho
      cases hcs : allAV env cap with
      | none => rw [hcs] at ho; cases ho
      | some cs =>
        rw [hcs] at ho
        simp only at ho
        refine wp_seq (wp_mono (defer_region hfun hcl h1 hcs hS hF hdf) fun e a1 w1 hq => ?_)
        obtain ⟨rfl, fid, vs, g1, own1, hfm, hd1, hl, hv, hE1, hS1, hF1⟩ := hq
        rw [hfm] at h3
        cases hb : exec m cl body ((s, .v (.fn f cs)) :: env) H with
        | none => rw [hb] at ho; cases ho
        | some o1 =>
          rw [hb] at ho
          obtain ⟨pv, e', H', q, e2, H2, k1, k2, k3, k4⟩ := dfrS_inv ho
          refine wp_mono (exec_sim hfun hcl hpure h2 hb (Ext.refl g1 own1 B H w1) hS1 hF1 hd1) fun e a2 w2 hq => ?_
          have hlen : cs.length = cap.length := allAV_len hcs
          have fin : ∀ {u : FrameMode} {g2 own2}, a2.defers = [{ target := .fn (.func fid) vs, args := #[] }] → Ext g1 own1 B H w1 g2 own2 H' w2 → St C g2 own2 B H' w2 → Fr C g2 own2 w2 e' a2.tmps n L → u ≠ .run →
              ((u = .returning ∧ pv = .niliface) ∨ ∃ v, u = .panicking [{ v := v, recovered := false }] ∧ VR C g2 pv v) → Leaves C.P fn a2.tmps R a2.defers u w2 := by
            intro u g2 own2 hd2 hE2 hS2 hF2 hrun hu
            rw [hd2]
            obtain ⟨fnc, bodyc, m1, m2, m3⟩ := hfun f fid hfm
            refine leaves_cons hrun (f := fid) (args := vs) (by simp [invoke, callFunc, m1, m2, m3]) ?_
            refine (clo_calls hfun hcl hpure h3 hlen k1 k2 hS2.callee hl (fun i x y hx hy => (hv i x y hx hy).mono hE2.le) hu).mono fun e u' w' hh => ?_
            obtain ⟨⟨v, rfl⟩, hset, g3, own3, _, hE3, hS3⟩ := hh
            show Leaves C.P fn a2.tmps R [] (settle u') w'
            rw [hset]
            have hfin := hR .ret { a2 with defers := [] } w' (by
              rw [k3]
              exact ⟨rfl, rfl, g3, backOwn own2 own3, hE.trans (hE1.trans (hE2.trans hE3.back)), hS2.back hE3 hS3, hF2.back hE3⟩)
            exact hfin.2
          rcases k4 with ⟨x, rfl, hx, hpv⟩ | rfl
          · obtain ⟨rfl, hd2, g2, own2, hE2, hS2, hF2⟩ := hq
            have := fin (u := .returning) hd2 hE2 hS2 hF2 (by simp) (.inl ⟨rfl, hpv⟩)
            rcases hx with rfl | rfl
            · exact this
            · exact this
          · obtain ⟨v, rfl, hd2, g2, own2, hE2, hS2, hF2, hpv⟩ := hq
            exact fin (u := .panicking [{ v := v, recovered := false }]) hd2 hE2 hS2 hF2 (by simp) (.inr ⟨v, rfl, hpv⟩)
    · cases hc
  | _ => intro c g own H w env a hc; cases c <;> simp only [chkD] at hc <;> cases hc

end

section
variable {C : Cx}

/-- one function's body, and so its calls -/
theorem fn_calls (hfun : FunsOK C) {cl : Caller} (hcl : CallsOK C cl) {pf : Nat → Bool} (hpure : PureC pf cl) {fid : FuncId} {af : AFn} (hc : chkFn C pf fid af = true) {m : Nat} {vs : List AV} {H : Heap} {r : CRes} (hp : vs.length = af.params)
    (hr : finS af H (exec m cl af.code (initEnv 0 vs) (bodyH af H)) = some r) {g : Gh} {own : Own} {B : Nat} {w : World} {ws : Array Value} (hS : St C g own B H w) (hl : vs.length = ws.size)
    (hv : ∀ (i : Nat) (x : AV) (y : Value), vs[i]? = some x → ws[i]? = some y → VR C g x y) : Calls C.P fid ws w (CallR C g own B H w r) := by
  unfold chkFn at hc
  split at hc
  · rename_i fn hfn
    split at hc
    · rename_i c hb
      simp only [Bool.and_eq_true, decide_eq_true_eq] at hc
      obtain ⟨⟨h1, h2⟩, h3⟩ := hc
      have hbody : (bodyH af H).next = H.next ∧ (bodyH af H).get = H.get := by unfold bodyH; split <;> exact ⟨rfl, rfl⟩
      have hSb : St C g own B (bodyH af H) w := by
        unfold bodyH
        split
        · exact ⟨hS.imm, hS.obj, hS.arr, hS.mp, hS.next, hS.ext, hS.base, hS.size, Nat.le_refl _, hS.gl⟩
        · exact hS
      cases hx : exec m cl af.code (initEnv 0 vs) (bodyH af H) with
      | none => rw [hx] at hr; cases hr
      | some out =>
        rw [hx] at hr
        suffices hR : ∀ e a1 w1, OutR C g own B (bodyH af H) w fn.ntmps (lvsOf af.code) [] out e a1 w1 → bodyPost C.P fn (CallR C g own B H w r) e a1 w1 by
          simp only [Bool.or_eq_true] at h3
          rcases h3 with h3 | h3
          · exact calls_of_wp hfn hb (wp_mono (exec_sim hfun hcl hpure h3 hx (Ext.refl g own B (bodyH af H) w) hSb (fr_init hSb.gl hl (by omega) hv) rfl) hR)
          · exact calls_of_wp_defers hfn hb (fnD_sim hfun hcl hpure hR h3 hx (Ext.refl g own B (bodyH af H) w) hSb (fr_init hSb.gl hl (by omega) hv) rfl)
        intro e a1 w1 hq
        have fin : ∀ {x v g' own' H'}, VR C g' x v → Ext g own B (bodyH af H) w g' own' H' w1 → St C g' own' B H' w1 → ∀ {r' : CRes}, (if af.pure then (if x.under H.next then some r' else none) else some r') = some r' →
            ∃ g'' own'', noSlots own'' ∧ VR C g'' x v ∧ Ext g own B H w g'' own'' (if af.pure then H else { H' with ro := H.ro }) w1 ∧ St C g'' own'' B (if af.pure then H else { H' with ro := H.ro }) w1 := by
          intro x v g' own' H' hxv hE' hS' r' hrr
          by_cases hpu : af.pure = true
          · simp only [hpu, if_true] at hrr ⊢
            have hun : x.under H.next = true := by
              by_cases h : x.under H.next = true
              · exact h
              · rw [if_neg h] at hrr; cases hrr
            have hE2 : Ext g own B { H with ro := H.next } w g' own' H' w1 := by
              unfold bodyH at hE'
              rw [if_pos hpu] at hE'
              exact hE'
            obtain ⟨k1, k2, k3⟩ := pure_call hS hE2 hS'
            exact ⟨_, _, noSlots_drop _ _, hxv.on k1 hun, k2, k3⟩
          · simp only [hpu, Bool.false_eq_true, if_false] at hrr ⊢
            have hE2 : Ext g own B H w g' own' H' w1 := by
              unfold bodyH at hE'
              rw [if_neg hpu] at hE'
              exact hE'
            obtain ⟨k2, k3⟩ := keep_call hS hE2 hS'
            exact ⟨_, _, noSlots_drop _ _, hxv, k2, k3⟩
        cases out with
        | go q e' H' =>
          obtain ⟨rfl, hd1, g1, own1, hE1, hS1, hF1⟩ := hq
          have done : resOf e' H' af.results ≠ none → (match resOf e' H' af.results with
              | none => none
              | some v => if af.pure then (if v.under H.next then some (CRes.ret v H) else none) else some (CRes.ret v { H' with ro := H.ro })) = some r → a1.defers = [] ∧ ∃ v, (results fn a1.tmps).run C.P w1 = .ok v w1 ∧ CallR C g own B H w r (.returned v) w1 := by
            intro _ hr'
            cases hz : resOf e' H' af.results with
            | none => rw [hz] at hr'; cases hr'
            | some z =>
              rw [hz] at hr'
              obtain ⟨v, k1, k2⟩ := res_run hS1 hF1 h2 hz
              refine ⟨hd1, v, k1, ?_⟩
              have hr2 : r = .ret z (if af.pure then H else { H' with ro := H.ro }) := by
                simp only at hr'
                by_cases hpu : af.pure = true
                · simp only [hpu, if_true] at hr' ⊢
                  split at hr'
                  · simpa using hr'.symm
                  · cases hr'
                · simp only [hpu, Bool.false_eq_true, if_false] at hr' ⊢
                  simpa using hr'.symm
              obtain ⟨g2, own2, n1, n2, n3, n4⟩ := fin k2 hE1 hS1 (r' := r) (by
                simp only at hr'
                by_cases hpu : af.pure = true
                · simp only [hpu, if_true] at hr' ⊢
                  split at hr'
                  · rename_i hun; simp [hun]
                  · cases hr'
                · simp [hpu])
              subst hr2
              exact ⟨g2, own2, n1, ⟨v, rfl, n2⟩, n3, n4⟩
          cases q with
          | nrm =>
            simp only [finS] at hr
            exact done (by intro h; rw [h] at hr; cases hr) hr
          | ret =>
            simp only [finS] at hr
            exact done (by intro h; rw [h] at hr; cases hr) hr
          | exit i => cases hr
        | pan v e' H' =>
          obtain ⟨pv, rfl, hd1, g1, own1, hE1, hS1, hF1, hpv⟩ := hq
          simp only [finS] at hr
          refine ⟨hd1, ?_⟩
          have hr2 : r = .pan v (if af.pure then H else { H' with ro := H.ro }) := by
            by_cases hpu : af.pure = true
            · simp only [hpu, if_true] at hr ⊢
              split at hr
              · simpa using hr.symm
              · cases hr
            · simp only [hpu, Bool.false_eq_true, if_false] at hr ⊢
              simpa using hr.symm
          obtain ⟨g2, own2, n1, n2, n3, n4⟩ := fin hpv hE1 hS1 (r' := r) (by
            by_cases hpu : af.pure = true
            · simp only [hpu, if_true] at hr ⊢
              split at hr
              · rename_i hun; simp [hun]
              · cases hr
            · simp [hpu])
          subst hr2
          exact ⟨g2, own2, n1, ⟨pv, rfl, n2⟩, n3, n4⟩
    · cases hc
  · cases hc

/-- which of our functions are pure -/
def pureF (Φ : Nat → Option AFn) (f : Nat) : Bool := match Φ f with
  | some af => af.pure
  | none => true

/-- the functions of a program that we know, and what we say of each -/
structure Known (C : Cx) (Φ : Nat → Option AFn) : Prop where
  funs : FunsOK C
  fns : ∀ f fid af, C.fm f = some fid → Φ f = some af → chkFn C (pureF Φ) fid af = true

theorem pure_callN (Φ : Nat → Option AFn) : ∀ n, PureC (pureF Φ) (callN Φ n)
  | 0 => fun _ _ _ _ _ _ h => by cases h
  | n + 1 => fun f hf vs H v H' h => by
    unfold pureF at hf
    simp only [callN] at h
    cases hΦ : Φ f with
    | none => rw [hΦ] at h; cases h
    | some af =>
      rw [hΦ] at h hf
      simp only at h hf
      split at h
      · unfold finS at h
        split at h
        · cases h
        · split at h
          · cases h
          · rw [if_pos hf] at h
            split at h
            · simp only [Option.some.injEq, CRes.ret.injEq] at h; exact h.2.symm
            · cases h
        · rw [if_pos hf] at h
          split at h <;> cases h
        · cases h
      · cases h

theorem calls_all {Φ : Nat → Option AFn} (hK : Known C Φ) : ∀ n, CallsOK C (callN Φ n)
  | 0 => fun _ _ _ _ h => by cases h
  | n + 1 => fun f vs H r hr fid hf g own B w ws hS hns hl hv => by
    simp only [callN] at hr
    cases hΦ : Φ f with
    | none => rw [hΦ] at hr; cases hr
    | some af =>
      rw [hΦ] at hr
      simp only at hr
      split at hr
      · rename_i hp
        exact fn_calls hK.funs (calls_all hK n) (pure_callN Φ n) (hK.fns f fid af hf hΦ) hp hr hS hl hv
      · cases hr

theorem calls_ev {Φ : Nat → Option AFn} (hK : Known C Φ) : CallsOK C (evC Φ) := fun f vs H r hr fid hf g own B w ws hS hns hl hv => by
  obtain ⟨n, hn⟩ := evC_iff.1 hr
  exact calls_all hK n f vs H r hn fid hf g own B w ws hS hns hl hv

def funOK (P : Program) (fid : FuncId) : Bool :=
  match P.funcs[fid]? with
  | some fn => fn.body.isSome && fn.name != "runtime.NumGoroutine"
  | none => false

/-- the check that a program's functions are what a list of ours says -/
def chkAll (C : Cx) (pf : Nat → Bool) : List FuncId → List AFn → Bool
  | [], [] => true
  | fid :: ids, af :: afs => funOK C.P fid && chkFn C pf fid af && chkAll C pf ids afs
  | _, _ => false

theorem chkAll_get {pf : Nat → Bool} : ∀ {ids : List FuncId} {afs : List AFn}, chkAll C pf ids afs = true → ∀ (f : Nat) (fid : FuncId), ids[f]? = some fid → funOK C.P fid = true ∧ ∀ af, afs[f]? = some af → chkFn C pf fid af = true
  | [], _, _, f, fid, h => by simp at h
  | _ :: _, [], hc, _, _, _ => by simp [chkAll] at hc
  | i :: ids, a :: afs, hc, f, fid, h => by
    simp only [chkAll, Bool.and_eq_true] at hc
    cases f with
    | zero =>
      simp at h
      subst h
      exact ⟨hc.1.1, fun af ha => by simp at ha; exact ha ▸ hc.1.2⟩
    | succ f =>
      simp at h
      obtain ⟨h1, h2⟩ := chkAll_get hc.2 f fid h
      exact ⟨h1, fun af ha => h2 af (by simpa using ha)⟩

theorem known_of {ids : List FuncId} {afs : List AFn} (hfm : C.fm = fun f => ids[f]?) (h : chkAll C (pureF fun f => afs[f]?) ids afs = true) : Known C (fun f => afs[f]?) where
  funs := fun f fid hf => by
    rw [hfm] at hf
    have h1 := (chkAll_get h f fid hf).1
    unfold funOK at h1
    split at h1
    · rename_i fn hfn
      simp only [Bool.and_eq_true, bne_iff_ne, ne_eq] at h1
      obtain ⟨c, hc⟩ := Option.isSome_iff_exists.1 h1.1
      exact ⟨fn, c, hfn, hc, h1.2⟩
    · cases h1
  fns := fun f fid af hf ha => by
    rw [hfm] at hf
    exact (chkAll_get h f fid hf).2 af ha
end
end Ey
