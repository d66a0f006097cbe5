/- Operations whose order does not matter. -/
import Derived.Test.YtjcnpcdcpfbpdaaGreatDoorEyLim
namespace Ey

/-- p: neither reads nor changes memory; l: reads a local variable; o: reads a variable on the heap; r: reads memory; a: makes or changes an array; k: changes the heap; w: changes memory; x: none of these -/
inductive Kd where
  | p | l | o | r | a | k | w | x
  deriving DecidableEq

def kindOf (pf : Nat → Bool) : AOp → Kd
  | .thaw .. | .frz .. | .pan _ => .x
  | .alv _ | .blv .. | .st .. | .cpy .. | .clr .. => .w
  | .app .. | .apz .. | .mks .. | .mkm .. => .a
  | .aob _ | .bob .. | .sto .. | .callc .. | .callv .. | .mkmp | .mpu .. => .k
  | .call f _ => if pf f then .r else .k
  | .ld .. | .ix .. | .sl .. | .cvb _ | .sts .. | .mpl .. => .r
  | .ldo .. => .o
  | .ldl .. | .ldp .. => .l
  | _ => .p

def Opd.slots : Opd → List Nat
  | .t n => [n]
  | .k _ => []

def oslots : Option Opd → List Nat
  | some o => o.slots
  | none => []

def AOp.looks : AOp → List Nat
  | .mv x | .un _ x | .cvi _ x | .cvb x | .cvs x | .cvl x | .fa _ _ _ x | .ld _ _ x | .ldi _ _ x | .ldp _ _ x | .ldo _ _ x | .fld _ _ _ x | .len x | .lns x | .cap x | .ext _ x | .mkif _ x | .tas _ _ _ x | .nilc x | .blv _ x | .bim _ x | .bob _ x | .mks _ _ x | .clr _ _ x | .pan x => x.slots
  | .bin _ x y | .eq _ _ x y | .ia _ _ _ x y | .ix _ x y | .ixl _ x y | .ixa _ _ _ x y | .ixs x y | .mnmx _ x y | .st _ x y | .sto _ x y | .app _ x y | .apz _ _ x y | .cpy _ x y => x.slots ++ y.slots
  | .pick c x y => c.slots ++ (x.slots ++ y.slots)
  | .mkm _ _ ps => ps.flatMap fun p => p.2.slots
  | .mkl _ _ ps => ps.flatMap fun p => p.2.slots
  | .bld _ ps => ps.flatMap fun p => p.2.slots
  | .sl _ x lo hi mx => x.slots ++ (oslots lo ++ (oslots hi ++ oslots mx))
  | .ss x lo hi => x.slots ++ (oslots lo ++ oslots hi)
  | .sla _ x lo hi => x.slots ++ (oslots lo ++ oslots hi)
  | .mkfn _ xs => xs.flatMap Opd.slots
  | .call _ xs => xs.flatMap Opd.slots
  | .callc _ xs cs => xs.flatMap Opd.slots ++ cs.flatMap fun c => c.1 :: c.2.2.2.slots
  | .callv f xs => f.slots ++ xs.flatMap Opd.slots
  | .ldl _ _ s => [s]
  | .nat _ xs => xs.flatMap Opd.slots
  | .st0 x y => x.slots ++ y.slots
  | .bad => []
  | .mkmp => []
  | .sts _ x y | .mpl _ _ _ x y | .rmc _ x y => x.slots ++ y.slots
  | .mpu _ x y z => x.slots ++ (y.slots ++ z.slots)
  | .alv _ | .aob _ => []
  | .thaw _ s | .frz _ s => [s]

def AInstr.looks (i : AInstr) : List Nat := (match i.guard with | some (s, _) => [s] | none => []) ++ i.op.looks

def Sl.isLv : Sl → Bool
  | .lv _ => true
  | _ => false

/-- the same but for one slot, which holds no local variable -/
structure Off (d : Option Nat) (e e' : Env) : Prop where
  eq : ∀ s, d ≠ some s → e.get s = e'.get s
  nl : ∀ s, d = some s → (e.get s).isLv = false ∧ (e'.get s).isLv = false

def Sames (a b : Sl) : Prop := a = b ∨ (a.isLv = true ∧ b.isLv = true)

theorem lv_of {x : Sl} (h : x.isLv = true) : ∃ cs, x = .lv cs := by
  cases x <;> simp [Sl.isLv] at h
  exact ⟨_, rfl⟩

section
variable {d : Option Nat} {e e' : Env}

theorem sl_sames {o : Opd} (h : ∀ s ∈ o.slots, Sames (e.get s) (e'.get s)) : e.sl o = e'.sl o := by
  cases o with
  | k v => rfl
  | t n =>
    rcases h n (by simp [Opd.slots]) with h | ⟨h1, h2⟩
    · simp [Env.sl, h]
    · obtain ⟨cs, h1⟩ := lv_of h1
      obtain ⟨cs', h2⟩ := lv_of h2
      simp [Env.sl, h1, h2]

theorem av_sames {o : Opd} (h : ∀ s ∈ o.slots, Sames (e.get s) (e'.get s)) : e.av o = e'.av o := by simp [Env.av, sl_sames h]

theorem allAV_sames : ∀ {l : List Opd}, (∀ s ∈ l.flatMap Opd.slots, Sames (e.get s) (e'.get s)) → allAV e l = allAV e' l
  | [], _ => rfl
  | o :: r, h => by
    simp only [allAV]
    rw [av_sames (o := o) fun s hs => h s (by simp [hs]), allAV_sames (l := r) fun s hs => h s (by
      simp only [List.flatMap_cons, List.mem_append]
      exact .inr hs)]

theorem allParts_sames {κ : Type} : ∀ {l : List (κ × Opd)}, (∀ s ∈ l.flatMap (fun p => p.2.slots), Sames (e.get s) (e'.get s)) → allParts e l = allParts e' l
  | [], _ => rfl
  | (i, o) :: r, h => by
    simp only [allParts]
    rw [av_sames (o := o) fun s hs => h s (by simp [hs]), allParts_sames (l := r) fun s hs => h s (by
      simp only [List.flatMap_cons, List.mem_append]
      exact .inr hs)]

theorem optAV_sames {o : Option Opd} (h : ∀ s ∈ oslots o, Sames (e.get s) (e'.get s)) : optAV e o = optAV e' o := by
  cases o with
  | none => rfl
  | some o => simp [optAV, av_sames (o := o) h]

theorem wanted_sames {i : AInstr} (h : ∀ s ∈ i.looks, Sames (e.get s) (e'.get s)) : wantedS e i.guard = wantedS e' i.guard := by
  obtain ⟨dst, op, guard⟩ := i
  cases guard with
  | none => rfl
  | some p =>
    obtain ⟨s, w⟩ := p
    rcases h s (by simp [AInstr.looks]) with h | ⟨h1, h2⟩
    · simp [wantedS, h]
    · obtain ⟨cs, h1⟩ := lv_of h1
      obtain ⟨cs', h2⟩ := lv_of h2
      simp [wantedS, h1, h2]

/-- what reads no memory answers the same whatever the memory -/
theorem opv_p {pf : Nat → Bool} {op : AOp} (hk : kindOf pf op = .p) (h : ∀ s ∈ op.looks, Sames (e.get s) (e'.get s)) (H H' : Heap) : opv e H op = opv e' H' op := by
  cases op <;> simp only [kindOf] at hk <;> try (cases hk; done)
  case call f xs => split at hk <;> cases hk
  case mkl z n ps => simp only [opv, allParts_sames (l := ps) h]
  case bld z ps => simp only [opv, allParts_sames (l := ps) h]
  case mkfn f xs => simp only [opv, allAV_sames (l := xs) h]
  case nat k xs => simp only [opv, allAV_sames (l := xs) h]
  case bad => rfl
  case st0 x y =>
    simp only [AOp.looks, List.mem_append] at h
    simp only [opv, sl_sames (o := x) fun s hs => h s (.inl hs), av_sames (o := y) fun s hs => h s (.inr hs)]
  case mv x => simp only [opv, sl_sames (o := x) h]
  case nilc x => simp only [opv, sl_sames (o := x) h]
  case fa off sz ag x => simp only [opv, sl_sames (o := x) h]
  case ldi sz ag x => simp only [opv, sl_sames (o := x) h]
  case pick c x y =>
    simp only [AOp.looks, List.mem_append] at h
    simp only [opv, av_sames (o := c) fun s hs => h s (.inl hs)]
    split
    · rename_i b hb; cases b <;> simp [av_sames (o := x) fun s hs => h s (.inr (.inl hs)), av_sames (o := y) fun s hs => h s (.inr (.inr hs))]
    · rfl
  case ss x lo hi =>
    simp only [AOp.looks, List.mem_append] at h
    simp only [opv, av_sames (o := x) fun s hs => h s (.inl hs), optAV_sames (o := lo) fun s hs => h s (.inr (.inl hs)), optAV_sames (o := hi) fun s hs => h s (.inr (.inr hs))]
  case sla n x lo hi =>
    simp only [AOp.looks, List.mem_append] at h
    simp only [opv, av_sames (o := x) fun s hs => h s (.inl hs), optAV_sames (o := lo) fun s hs => h s (.inr (.inl hs)), optAV_sames (o := hi) fun s hs => h s (.inr (.inr hs))]
  case ia n sz ag x y =>
    simp only [AOp.looks, List.mem_append] at h
    simp only [opv, sl_sames (o := x) fun s hs => h s (.inl hs), av_sames (o := y) fun s hs => h s (.inr hs)]
  all_goals first
    | (rename_i x; simp only [opv, av_sames (o := x) h])
    | (rename_i x y
       simp only [AOp.looks, List.mem_append] at h
       simp only [opv, av_sames (o := x) fun s hs => h s (.inl hs), av_sames (o := y) fun s hs => h s (.inr hs)])

theorem off_sames (h : Off d e e') {s : Nat} (hs : d ≠ some s) : Sames (e.get s) (e'.get s) := .inl (h.eq s hs)

theorem ldS_off (h : Off d e e') (H : Heap) (sz : Nat) (ag : Bool) (x : Sl) : ldS e H sz ag x = ldS e' H sz ag x := by
  cases x with
  | lp s off =>
    simp only [ldS]
    by_cases hs : d = some s
    · obtain ⟨h1, h2⟩ := h.nl s hs
      cases h3 : e.get s <;> cases h4 : e'.get s <;> first | rfl | (rw [h3] at h1; simp [Sl.isLv] at h1; done) | (rw [h4] at h2; simp [Sl.isLv] at h2; done)
    · rw [h.eq s hs]
  | v y => cases y <;> rfl
  | _ => rfl

/-- what does not change memory answers the same if but one slot is another -/
theorem opv_off (h : Off d e e') {op : AOp} (hd : ∀ s ∈ op.looks, d ≠ some s) (H : Heap) : opv e H op = opv e' H op := by
  have hs : ∀ s ∈ op.looks, Sames (e.get s) (e'.get s) := fun s hs => off_sames h (hd s hs)
  by_cases hk : kindOf (fun _ => true) op = .p
  · exact opv_p hk hs H H
  · cases op <;> simp only [kindOf, reduceCtorEq, not_false_eq_true, not_true_eq_false] at hk <;> try (rfl; done)
    case ld sz ag x => simp only [opv, sl_sames (o := x) hs, ldS_off h]
    case ldp sz ag x => simp only [opv, sl_sames (o := x) hs, ldS_off h]
    case ldo sz ag x => simp only [opv, sl_sames (o := x) hs, ldS_off h]
    case ldl sz ag s => simp only [opv, h.eq s (hd s (by simp [AOp.looks]))]
    case cvb x => simp only [opv, av_sames (o := x) hs]
    case sts sz x y =>
      simp only [AOp.looks, List.mem_append] at hs
      simp only [opv, sl_sames (o := x) fun s k => hs s (.inl k), av_sames (o := y) fun s k => hs s (.inr k)]
    case mpl n z ok x y =>
      simp only [AOp.looks, List.mem_append] at hs
      simp only [opv, av_sames (o := x) fun s k => hs s (.inl k), av_sames (o := y) fun s k => hs s (.inr k)]
    case ix sz x y =>
      simp only [AOp.looks, List.mem_append] at hs
      simp only [opv, av_sames (o := x) fun s k => hs s (.inl k), av_sames (o := y) fun s k => hs s (.inr k)]
    case sl sz x lo hi mx =>
      simp only [AOp.looks, List.mem_append] at hs
      simp only [opv, av_sames (o := x) fun s k => hs s (.inl k), optAV_sames (o := lo) fun s k => hs s (.inr (.inl k)), optAV_sames (o := hi) fun s k => hs s (.inr (.inr (.inl k))), optAV_sames (o := mx) fun s k => hs s (.inr (.inr (.inr k)))]

theorem get_cons (k : Nat) (x : Sl) (e : Env) (s : Nat) : Env.get ((k, x) :: e) s = if s = k then x else e.get s := rfl

theorem off_cons (h : Off d e e') {k : Nat} (hk : d ≠ some k) (x : Sl) : Off d ((k, x) :: e) ((k, x) :: e') where
  eq := fun s hs => by simp only [get_cons]; split; rfl; exact h.eq s hs
  nl := fun s hs => by
    have : s ≠ k := fun e => hk (e ▸ hs)
    simp only [get_cons, if_neg this]
    exact h.nl s hs

theorem off_set (h : Off d e e') {x : Option Nat} (hx : ∀ s, x = some s → d ≠ some s) (v : Sl) : Off d (setDst x v e) (setDst x v e') := by
  cases x with
  | none => exact h
  | some k => exact off_cons h (hx k rfl) v

theorem stS_off (h : Off d e e') {H : Heap} {new : List AV} {x : Sl} {e1 : Env} {H1 : Heap} (hs : stS e H new x = some (e1, H1)) : ∃ e1', stS e' H new x = some (e1', H1) ∧ Off d e1 e1' := by
  cases x with
  | lp s off =>
    simp only [stS] at hs ⊢
    by_cases hd : d = some s
    · obtain ⟨h1, _⟩ := h.nl s hd
      cases h3 : e.get s <;> rw [h3] at hs h1 <;> first | (simp [Sl.isLv] at h1; done) | (cases hs; done)
    · rw [← h.eq s hd]
      split at hs
      · rename_i cs hcs
        split at hs
        · rename_i hle
          simp only [Option.some.injEq, Prod.mk.injEq] at hs
          obtain ⟨rfl, rfl⟩ := hs
          exact ⟨_, by simp only [if_pos hle], off_cons h hd _⟩
        · cases hs
      · cases hs
  | v y =>
    have key : ∀ {o : Option (Env × Heap)} {o' : Option (Env × Heap)}, o = some (e1, H1) → (∀ p, o = some p → p.1 = e → o' = some (e', p.2)) → (∀ p, o = some p → p.1 = e) → ∃ e1', o' = some (e1', H1) ∧ Off d e1 e1' := by
      intro o o' ho h1 h2
      have h3 := h2 _ ho
      simp only at h3
      exact ⟨e', h1 _ ho h3, h3 ▸ h⟩
    refine key hs (fun p hp hpe => ?_) (fun p hp => ?_)
    · cases y <;> simp only [stS] at hp ⊢ <;> try (cases hp; done)
      all_goals
        repeat' (split at hp)
        all_goals first | (cases hp; done) | (simp only [Option.some.injEq] at hp; subst hp; simp_all)
    · cases y <;> simp only [stS] at hp <;> try (cases hp; done)
      all_goals
        repeat' (split at hp)
        all_goals first | (cases hp; done) | (simp only [Option.some.injEq] at hp; subst hp; rfl)
  | no => cases hs
  | un => cases hs
  | lv cs => cases hs

theorem opS_off (h : Off d e e') {cl : Caller} {op : AOp} (hx : ∀ pf, kindOf pf op ≠ .x) {x : Option Nat} (hxd : ∀ s, x = some s → d ≠ some s) (hd : ∀ s ∈ op.looks, d ≠ some s) {H : Heap} {q : Ex} {e1 : Env} {H1 : Heap}
    (hs : opS cl x e H op = some (.go q e1 H1)) : ∃ e1', opS cl x e' H op = some (.go q e1' H1) ∧ Off d e1 e1' := by
  have hav : ∀ {o : Opd}, (∀ s ∈ o.slots, d ≠ some s) → e.av o = e'.av o := fun {o} ho => av_sames fun s k => off_sames h (ho s k)
  have hsl : ∀ {o : Opd}, (∀ s ∈ o.slots, d ≠ some s) → e.sl o = e'.sl o := fun {o} ho => sl_sames fun s k => off_sames h (ho s k)
  cases op
  case thaw sz s => exact absurd rfl (hx fun _ => true)
  case frz f s => exact absurd rfl (hx fun _ => true)
  case pan y => exact absurd rfl (hx fun _ => true)
  case alv cs =>
    cases x with
    | none => cases hs
    | some s =>
      simp only [opS] at hs ⊢
      rw [← h.eq s (hxd s rfl)]
      split at hs
      · cases hs
      · rename_i hne
        simp only [Option.some.injEq, Out.go.injEq] at hs
        obtain ⟨rfl, rfl, rfl⟩ := hs
        exact ⟨(s, .lv cs) :: e', rfl, off_cons h (hxd s rfl) _⟩
  case blv sz y =>
    cases x with
    | none => cases hs
    | some s =>
      simp only [opS] at hs ⊢
      rw [← hav (o := y) hd]
      split at hs
      · rename_i s' v hs' hv
        simp at hs'; subst hs'
        split at hs
        · cases hs
        · rename_i hne
          split at hs
          · rename_i hl
            simp only [Option.some.injEq, Out.go.injEq] at hs
            obtain ⟨rfl, rfl, rfl⟩ := hs
            refine ⟨(s, .lv v.cells) :: e', ?_, off_cons h (hxd s rfl) _⟩
            rw [← h.eq s (hxd s rfl)]
            simp only [if_pos hl]
          · cases hs
      · cases hs
  case aob cs =>
    simp only [opS, Option.some.injEq, Out.go.injEq] at hs ⊢
    obtain ⟨rfl, rfl, rfl⟩ := hs
    exact ⟨_, ⟨rfl, rfl, rfl⟩, off_set h hxd _⟩
  case bob sz y =>
    simp only [opS] at hs ⊢
    rw [← hav (o := y) hd]
    repeat' (split at hs)
    all_goals first | (cases hs; done) | skip
    rename_i v hv hl
    simp only [Option.some.injEq, Out.go.injEq] at hs
    obtain ⟨rfl, rfl, rfl⟩ := hs
    refine ⟨_, ?_, off_set h hxd _⟩
    first | rfl | simp_all
  case st sz y z =>
    simp only [AOp.looks, List.mem_append] at hd
    simp only [opS] at hs ⊢
    rw [← hav (o := z) fun s k => hd s (.inr k), ← hsl (o := y) fun s k => hd s (.inl k)]
    cases hz : e.av z with
    | none => rw [hz] at hs; cases hs
    | some w =>
      rw [hz] at hs
      simp only at hs ⊢
      by_cases hl : w.cells.length = sz
      · rw [if_pos hl] at hs ⊢
        cases hst : stS e H w.cells (e.sl y) with
        | none => rw [hst] at hs; cases hs
        | some p =>
          obtain ⟨e2, H2⟩ := p
          rw [hst] at hs
          simp only [Option.some.injEq, Out.go.injEq] at hs
          obtain ⟨rfl, rfl, rfl⟩ := hs
          obtain ⟨e2', k1, k2⟩ := stS_off h hst
          exact ⟨e2', by rw [k1], k2⟩
      · rw [if_neg hl] at hs; cases hs
  case mkmp =>
    simp only [opS, Option.some.injEq, Out.go.injEq] at hs ⊢
    obtain ⟨rfl, rfl, rfl⟩ := hs
    exact ⟨_, ⟨rfl, rfl, rfl⟩, off_set h hxd _⟩
  case mpu m y z u =>
    simp only [AOp.looks, List.mem_append] at hd
    simp only [opS] at hs ⊢
    rw [← hav (o := y) fun s k => hd s (.inl k), ← hav (o := z) fun s k => hd s (.inr (.inl k)), ← hav (o := u) fun s k => hd s (.inr (.inr k))]
    repeat' (split at hs)
    all_goals first | (cases hs; done) | skip
    all_goals
      simp only [Option.some.injEq, Out.go.injEq] at hs
      obtain ⟨rfl, rfl, rfl⟩ := hs
      refine ⟨_, ?_, off_set h hxd _⟩
      simp_all
  case app sz y z =>
    simp only [AOp.looks, List.mem_append] at hd
    simp only [opS] at hs ⊢
    rw [← hav (o := y) fun s k => hd s (.inl k), ← hav (o := z) fun s k => hd s (.inr k)]
    repeat' (split at hs)
    all_goals first | (cases hs; done) | skip
    rename_i u v hu hv _ r H' ha
    simp only [Option.some.injEq, Out.go.injEq] at hs
    obtain ⟨rfl, rfl, rfl⟩ := hs
    refine ⟨_, ?_, off_set h hxd _⟩
    first | rfl | simp_all
  case sto sz y z =>
    simp only [AOp.looks, List.mem_append] at hd
    simp only [opS] at hs ⊢
    rw [← hav (o := z) fun s k => hd s (.inr k), ← hsl (o := y) fun s k => hd s (.inl k)]
    split at hs
    · rename_i q hq
      split at hs
      · rename_i w hw
        split at hs
        · rename_i hl
          simp only [if_pos hl]
          cases hst : stS e H w.cells (.v q) with
          | none => rw [hst] at hs; cases hs
          | some p =>
            obtain ⟨e2, H2⟩ := p
            rw [hst] at hs
            simp only [Option.some.injEq, Out.go.injEq] at hs
            obtain ⟨rfl, rfl, rfl⟩ := hs
            obtain ⟨e2', k1, k2⟩ := stS_off h hst
            exact ⟨_, by rw [k1], off_set h hxd _⟩
        · cases hs
      · cases hs
    · cases hs
  case apz sz z0 y z =>
    simp only [AOp.looks, List.mem_append] at hd
    simp only [opS] at hs ⊢
    rw [← hav (o := y) fun s k => hd s (.inl k), ← hav (o := z) fun s k => hd s (.inr k)]
    repeat' (split at hs)
    all_goals first | (cases hs; done) | skip
    simp only [Option.some.injEq, Out.go.injEq] at hs
    obtain ⟨rfl, rfl, rfl⟩ := hs
    refine ⟨_, ?_, off_set h hxd _⟩
    first | rfl | simp_all
  case mkm z k ps =>
    simp only [opS] at hs ⊢
    rw [← allParts_sames (l := ps) fun s j => off_sames h (hd s j)]
    repeat' (split at hs)
    all_goals first | (cases hs; done) | skip
    simp only [Option.some.injEq, Out.go.injEq] at hs
    obtain ⟨rfl, rfl, rfl⟩ := hs
    refine ⟨_, ?_, off_set h hxd _⟩
    first | rfl | simp_all
  case mks sz z y =>
    simp only [opS] at hs ⊢
    rw [← hav (o := y) hd]
    repeat' (split at hs)
    all_goals first | (cases hs; done) | skip
    rename_i kk hv hl
    simp only [Option.some.injEq, Out.go.injEq] at hs
    obtain ⟨rfl, rfl, rfl⟩ := hs
    refine ⟨_, ?_, off_set h hxd _⟩
    first | rfl | simp_all
  case cpy sz y z =>
    simp only [AOp.looks, List.mem_append] at hd
    simp only [opS] at hs ⊢
    rw [← hav (o := y) fun s k => hd s (.inl k), ← hav (o := z) fun s k => hd s (.inr k)]
    repeat' (split at hs)
    all_goals first | (cases hs; done) | skip
    all_goals
      simp only [Option.some.injEq, Out.go.injEq] at hs
      obtain ⟨rfl, rfl, rfl⟩ := hs
      refine ⟨_, ?_, off_set h hxd _⟩
      simp_all
  case clr sz z y =>
    simp only [opS] at hs ⊢
    rw [← hav (o := y) hd]
    repeat' (split at hs)
    all_goals first | (cases hs; done) | skip
    all_goals
      simp only [Option.some.injEq, Out.go.injEq] at hs
      obtain ⟨rfl, rfl, rfl⟩ := hs
      refine ⟨_, ?_, off_set h hxd _⟩
      simp_all
  case call f xs =>
    simp only [opS] at hs ⊢
    rw [← allAV_sames (e := e) (e' := e') (l := xs) fun s k => off_sames h (hd s k)]
    repeat' (split at hs)
    all_goals first | (cases hs; done) | skip
    rename_i vs hvs _ v H' hc
    simp only [Option.some.injEq, Out.go.injEq] at hs
    obtain ⟨rfl, rfl, rfl⟩ := hs
    refine ⟨_, ?_, off_set h hxd _⟩
    first | rfl | simp_all
  case callc f xs cs =>
    simp only [AOp.looks, List.mem_append] at hd
    simp only [opS] at hs ⊢
    rw [← allAV_sames (e := e) (e' := e') (l := xs) fun s k => off_sames h (hd s (.inl k))]
    repeat' (split at hs)
    all_goals first | (cases hs; done) | skip
    rename_i vs hvs _ v H' hc hcs
    simp only [Option.some.injEq, Out.go.injEq] at hs
    obtain ⟨rfl, rfl, rfl⟩ := hs
    refine ⟨setDst x (.v v) e', ?_, off_set h hxd _⟩
    have hset := off_set h hxd (.v v)
    have : cs.all (sameLd (setDst x (.v v) e') H') = true := by
      rw [List.all_eq_true] at hcs ⊢
      intro q hq
      have h1 := hcs q hq
      have hl : ∀ s ∈ q.1 :: q.2.2.2.slots, d ≠ some s := fun s hs => hd s (.inr (List.mem_flatMap.2 ⟨q, hq, hs⟩))
      unfold sameLd at h1 ⊢
      rw [← sl_sames (o := q.2.2.2) fun s k => off_sames hset (hl s (List.mem_cons_of_mem _ k)), ← hset.eq q.1 (hl q.1 List.mem_cons_self)]
      simp only [← ldS_off hset]
      exact h1
    simp only [this, if_true]
  case callv f xs =>
    simp only [AOp.looks, List.mem_append] at hd
    simp only [opS] at hs ⊢
    rw [← hav (o := f) fun s k => hd s (.inl k), ← allAV_sames (e := e) (e' := e') (l := xs) fun s k => off_sames h (hd s (.inr k))]
    repeat' (split at hs)
    all_goals first | (cases hs; done) | skip
    rename_i gg cap vs hf hvs _ v H' hc
    simp only [Option.some.injEq, Out.go.injEq] at hs
    obtain ⟨rfl, rfl, rfl⟩ := hs
    refine ⟨_, ?_, off_set h hxd _⟩
    first | rfl | simp_all
  all_goals
    simp only [opS] at hs ⊢
    rw [← opv_off h hd H]
    split at hs
    · rename_i y hy
      simp only [Option.some.injEq, Out.go.injEq] at hs
      obtain ⟨rfl, rfl, rfl⟩ := hs
      exact ⟨_, rfl, off_set h hxd _⟩
    · cases hs
end
end Ey
