/- Operations whose order does not matter: two that change places, and one that is taken first. -/
import Derived.Test.YtjcnpcdcpfbpdaaGreatDoorEyDraw
namespace Ey

/-- one operation with its guard, if it ends without a panic -/
def stp (cl : Caller) (i : AInstr) (e : Env) (H : Heap) : Option (Env × Heap) :=
  match wantedS e i.guard with
  | none => none
  | some false => some (setDst i.dst .un e, H)
  | some true => match opS cl i.dst e H i.op with
    | some (.go _ e' H') => some (e', H')
    | _ => none

def runS (cl : Caller) : List AInstr → Env → Heap → Option (Env × Heap)
  | [], e, H => some (e, H)
  | i :: r, e, H => match stp cl i e H with
    | some (e', H') => runS cl r e' H'
    | none => none

theorem runS_of_opsS {cl : Caller} : ∀ {l : List AInstr} {e : Env} {H : Heap} {q : Ex} {e' : Env} {H' : Heap}, opsS cl l e H = some (.go q e' H') → runS cl l e H = some (e', H')
  | [], e, H, q, e', H', h => by
    simp only [opsS, Option.some.injEq, Out.go.injEq] at h
    obtain ⟨_, rfl, rfl⟩ := h
    rfl
  | i :: r, e, H, q, e', H', h => by
    simp only [opsS] at h
    simp only [runS, stp]
    cases hw : wantedS e i.guard with
    | none => rw [hw] at h; cases h
    | some b =>
      rw [hw] at h
      cases b with
      | false => exact runS_of_opsS h
      | true =>
        simp only at h ⊢
        cases ho : opS cl i.dst e H i.op with
        | none => rw [ho] at h; cases h
        | some o =>
          rw [ho] at h
          cases o with
          | go q2 e2 H2 => exact runS_of_opsS h
          | pan v e2 H2 => cases h

/-- calls of these change no heap -/
def PureC (pf : Nat → Bool) (cl : Caller) : Prop := ∀ f, pf f = true → ∀ vs H v H', cl f vs H = some (.ret v H') → H' = H

def quiet : Kd → Bool
  | .p | .l | .o | .r => true
  | _ => false

/-- what an operation that changes nothing yields -/
def qv (cl : Caller) (i : AInstr) (e : Env) (H : Heap) : Option Sl :=
  match wantedS e i.guard with
  | none => none
  | some false => some .un
  | some true => match i.op with
    | .call f xs => match allAV e xs with
      | some vs => match cl f vs H with
        | some (.ret v _) => some (.v v)
        | _ => none
      | none => none
    | op => opv e H op

theorem opv_nl {e : Env} {H : Heap} {op : AOp} {x : Sl} (h : opv e H op = some x) : x.isLv = false := by
  cases op <;> simp only [opv] at h <;> try (cases h; done)
  all_goals repeat' (split at h)
  all_goals first
    | (cases h; done)
    | (simp only [Option.some.injEq] at h; subst h; rfl)
    | (simp only [Option.map_eq_some_iff] at h; obtain ⟨_, _, rfl⟩ := h; rfl)
    | (unfold addrS at h
       split at h <;> first
         | (cases h; done)
         | (simp only [Option.some.injEq] at h; subst h; rfl)
         | (simp only [Option.map_eq_some_iff] at h; obtain ⟨_, _, rfl⟩ := h; rfl))

section
variable {pf : Nat → Bool} {cl : Caller} {i : AInstr} {e e' : Env} {H H' : Heap}

theorem quiet_op (hp : PureC pf cl) {op : AOp} (hq : quiet (kindOf pf op) = true) {d : Option Nat} {q : Ex} (h : opS cl d e H op = some (.go q e' H')) :
    H' = H ∧ ∃ x, qv cl ⟨d, op, none⟩ e H = some x ∧ x.isLv = false ∧ e' = setDst d x e := by
  have key : ∀ {o : AOp}, (∀ f xs, o ≠ .call f xs) → (match opv e H o with
      | some x => some (Out.go .nrm (setDst d x e) H)
      | none => none) = some (Out.go q e' H') → H' = H ∧ ∃ x, qv cl ⟨d, o, none⟩ e H = some x ∧ x.isLv = false ∧ e' = setDst d x e := by
    intro o hne hh
    split at hh
    · rename_i x hx
      simp only [Option.some.injEq, Out.go.injEq] at hh
      obtain ⟨_, rfl, rfl⟩ := hh
      refine ⟨rfl, x, ?_, opv_nl hx, rfl⟩
      simp only [qv, wantedS]
      exact hx
    · cases hh
  cases op <;> try (simp only [kindOf, quiet, Bool.false_eq_true] at hq; done)
  case call f xs =>
    have hpf : pf f = true := by
      by_cases hb : pf f = true
      · exact hb
      · simp [kindOf, quiet, hb] at hq
    simp only [opS] at h
    repeat' (split at h)
    all_goals first | (cases h; done) | skip
    rename_i vs hvs _ v H2 hc
    simp only [Option.some.injEq, Out.go.injEq] at h
    obtain ⟨_, rfl, rfl⟩ := h
    exact ⟨hp f hpf _ _ _ _ hc, .v v, by simp only [qv, wantedS, hvs, hc], rfl, rfl⟩
  all_goals exact key (fun f xs hc => by cases hc) h

theorem quiet_stp (hp : PureC pf cl) (hq : quiet (kindOf pf i.op) = true) (h : stp cl i e H = some (e', H')) : H' = H ∧ ∃ x, qv cl i e H = some x ∧ x.isLv = false ∧ e' = setDst i.dst x e := by
  unfold stp at h
  cases hw : wantedS e i.guard with
  | none => rw [hw] at h; cases h
  | some b =>
    rw [hw] at h
    cases b with
    | false =>
      simp only [Option.some.injEq, Prod.mk.injEq] at h
      obtain ⟨rfl, rfl⟩ := h
      exact ⟨rfl, .un, by simp only [qv, hw], rfl, rfl⟩
    | true =>
      simp only at h
      cases ho : opS cl i.dst e H i.op with
      | none => rw [ho] at h; cases h
      | some o =>
        rw [ho] at h
        cases o with
        | pan v e2 H2 => cases h
        | go q e2 H2 =>
          simp only [Option.some.injEq, Prod.mk.injEq] at h
          obtain ⟨rfl, rfl⟩ := h
          obtain ⟨h1, x, h2, h3, h4⟩ := quiet_op hp hq ho
          refine ⟨h1, x, ?_, h3, h4⟩
          simp only [qv, wantedS] at h2
          simp only [qv, hw]
          exact h2

theorem stp_quiet (hp : PureC pf cl) (hq : quiet (kindOf pf i.op) = true) {x : Sl} (h : qv cl i e H = some x) : stp cl i e H = some (setDst i.dst x e, H) := by
  unfold qv at h
  unfold stp
  cases hw : wantedS e i.guard with
  | none => rw [hw] at h; cases h
  | some b =>
    rw [hw] at h
    cases b with
    | false => simp only [Option.some.injEq] at h; subst h; rfl
    | true =>
      simp only at h ⊢
      obtain ⟨dst, op, guard⟩ := i
      simp only at h hq ⊢
      cases op <;> try (simp only [kindOf, quiet, Bool.false_eq_true] at hq; done)
      case call f xs =>
        have hpf : pf f = true := by
          by_cases hb : pf f = true
          · exact hb
          · simp [kindOf, quiet, hb] at hq
        simp only [opS] at h ⊢
        repeat' (split at h)
        all_goals first | (cases h; done) | skip
        rename_i vs hvs _ v H2 hc
        simp only [Option.some.injEq] at h
        subst h
        obtain rfl := hp f hpf _ _ _ _ hc
        simp only [hvs, hc]
      all_goals (simp only at h; simp only [opS, h])

theorem stp_off {d : Option Nat} (h : Off d e e') (hx : ∀ pf, kindOf pf i.op ≠ .x) (hxd : ∀ s, i.dst = some s → d ≠ some s) (hd : ∀ s ∈ i.looks, d ≠ some s) {e1 : Env} {H1 : Heap} (hs : stp cl i e H = some (e1, H1)) :
    ∃ e1', stp cl i e' H = some (e1', H1) ∧ Off d e1 e1' := by
  unfold stp at hs ⊢
  rw [← wanted_sames (i := i) (e := e) (e' := e') fun s k => off_sames h (hd s k)]
  cases hw : wantedS e i.guard with
  | none => rw [hw] at hs; cases hs
  | some b =>
    rw [hw] at hs
    cases b with
    | false =>
      simp only [Option.some.injEq, Prod.mk.injEq] at hs
      obtain ⟨rfl, rfl⟩ := hs
      exact ⟨_, rfl, off_set h hxd _⟩
    | true =>
      simp only at hs ⊢
      cases ho : opS cl i.dst e H i.op with
      | none => rw [ho] at hs; cases hs
      | some o =>
        rw [ho] at hs
        cases o with
        | pan v e2 H2 => cases hs
        | go q e2 H2 =>
          simp only [Option.some.injEq, Prod.mk.injEq] at hs
          obtain ⟨rfl, rfl⟩ := hs
          obtain ⟨e2', k1, k2⟩ := opS_off h hx hxd (fun s k => hd s (by simp [AInstr.looks, k])) ho
          exact ⟨e2', by rw [k1], k2⟩

theorem runS_off {d : Option Nat} : ∀ {l : List AInstr} {e e' : Env} {H : Heap}, Off d e e' → (∀ i ∈ l, (∀ pf, kindOf pf i.op ≠ .x) ∧ (∀ s, i.dst = some s → d ≠ some s) ∧ ∀ s ∈ i.looks, d ≠ some s) → ∀ {e1 : Env} {H1 : Heap}, runS cl l e H = some (e1, H1) →
    ∃ e1', runS cl l e' H = some (e1', H1) ∧ Off d e1 e1'
  | [], e, e', H, h, _, e1, H1, hs => by
    simp only [runS, Option.some.injEq, Prod.mk.injEq] at hs
    obtain ⟨rfl, rfl⟩ := hs
    exact ⟨e', rfl, h⟩
  | i :: l, e, e', H, h, hl, e1, H1, hs => by
    simp only [runS] at hs ⊢
    cases h1 : stp cl i e H with
    | none => rw [h1] at hs; cases hs
    | some p =>
      obtain ⟨e2, H2⟩ := p
      rw [h1] at hs
      obtain ⟨k1, k2, k3⟩ := hl i (by simp)
      obtain ⟨e2', m1, m2⟩ := stp_off h k1 k2 k3 h1
      rw [m1]
      exact runS_off m2 (fun j hj => hl j (by simp [hj])) hs

/-- what an operation leaves as it was -/
theorem stp_sames (hx : ∀ pf, kindOf pf i.op ≠ .x) (h : stp cl i e H = some (e', H')) {s : Nat} (hs : i.dst ≠ some s) : Sames (e.get s) (e'.get s) := by
  have hset : ∀ x, Sames (e.get s) ((setDst i.dst x e).get s) := fun x => by
    cases hd : i.dst with
    | none => exact .inl rfl
    | some k =>
      refine .inl ?_
      have hne : s ≠ k := fun he => hs (he ▸ hd)
      simp [setDst, get_cons, hne]
  have hcons : ∀ {k cs}, (i.dst = some k ∨ ∃ cs', e.get k = .lv cs') → Sames (e.get s) (Env.get ((k, .lv cs) :: e) s) := fun {k cs} hk => by
    by_cases hsk : s = k
    · subst hsk
      rcases hk with hk | ⟨cs', hk⟩
      · exact absurd hk hs
      · exact .inr ⟨by rw [hk]; rfl, by simp [get_cons, Sl.isLv]⟩
    · exact .inl (by simp [get_cons, hsk])
  unfold stp at h
  cases hw : wantedS e i.guard with
  | none => rw [hw] at h; cases h
  | some b =>
    rw [hw] at h
    cases b with
    | false =>
      simp only [Option.some.injEq, Prod.mk.injEq] at h
      obtain ⟨rfl, rfl⟩ := h
      exact hset _
    | true =>
      simp only at h
      have ho : ∃ q, opS cl i.dst e H i.op = some (.go q e' H') := by
        split at h
        · rename_i q e2 H2 ho
          simp only [Option.some.injEq, Prod.mk.injEq] at h
          obtain ⟨rfl, rfl⟩ := h
          exact ⟨q, ho⟩
        · cases h
      obtain ⟨q, ho⟩ := ho
      obtain ⟨dst, op, guard⟩ := i
      simp only at ho hset hcons hs hx
      cases op
      case thaw sz s => exact absurd rfl (hx fun _ => true)
      case frz f s => exact absurd rfl (hx fun _ => true)
      case pan y => exact absurd rfl (hx fun _ => true)
      case st sz y z =>
        simp only [opS] at ho
        repeat' (split at ho)
        all_goals first | (cases ho; done) | skip
        rename_i w hw2 hl _ e3 H3 hst
        simp only [Option.some.injEq, Out.go.injEq] at ho
        obtain ⟨_, rfl, rfl⟩ := ho
        unfold stS at hst
        repeat' (split at hst)
        all_goals first
          | (cases hst; done)
          | (simp only [Option.some.injEq, Prod.mk.injEq] at hst; obtain ⟨rfl, rfl⟩ := hst; first | exact .inl rfl | (rename_i cs hcs _; exact hcons (.inr ⟨cs, hcs⟩)))
      all_goals
        simp only [opS] at ho
        repeat' (split at ho)
        all_goals first
          | (cases ho; done)
          | (simp only [Option.some.injEq, Out.go.injEq] at ho
             obtain ⟨_, rfl, rfl⟩ := ho
             first | exact hset _ | exact hcons (.inl rfl))
end
end Ey
