/- Operations that change places. -/
import Derived.Test.YtjcnpcdcpfbpdaaGreatDoorEyDraw2
namespace Ey

/-- these set their slot, or none, and no other -/
def setter : AOp → Bool
  | .alv _ | .blv .. | .st .. | .thaw .. | .frz .. | .pan _ => false
  | _ => true

def commK : Kd → Kd → Bool
  | .x, _ => false
  | _, .x => false
  | .p, _ => true
  | _, .p => true
  | .l, .w => false
  | .w, .l => false
  | .l, _ => true
  | _, .l => true
  | .o, .a => true
  | .a, .o => true
  | .o, .o => true
  | .o, .r => true
  | .r, .o => true
  | .r, .r => true
  | _, _ => false

def missB (d : Option Nat) (l : List Nat) : Bool :=
  match d with
  | some s => !l.contains s
  | none => true

def apartB (a b : AInstr) : Bool := missB a.dst b.looks && missB b.dst a.looks && (a.dst == none || a.dst != b.dst)

def commB (pf : Nat → Bool) (a b : AInstr) : Bool := commK (kindOf pf a.op) (kindOf pf b.op) && apartB a b

/-- where an operation's slot is no local variable's unless it makes one -/
def okLB (L : List Nat) (i : AInstr) : Bool :=
  (match i.dst with
  | some d => L.contains d || setter i.op
  | none => true) && (match i.op with
  | .st .. => i.dst == none
  | _ => true) && kindOf (fun _ => true) i.op != .x

def LvIn (L : List Nat) (e : Env) : Prop := ∀ s, (e.get s).isLv = true → s ∈ L

theorem miss_spec {d : Option Nat} {l : List Nat} (h : missB d l = true) : ∀ s ∈ l, d ≠ some s := by
  intro s hs hd
  subst hd
  simp [missB] at h
  exact h hs

theorem kind_x {op : AOp} (h : kindOf (fun _ => true) op ≠ .x) : ∀ pf, kindOf pf op ≠ .x := by
  intro pf
  cases op <;> simp [kindOf] at h ⊢
  split <;> simp

section
variable {pf : Nat → Bool} {cl : Caller} {L : List Nat} {i a b : AInstr} {e e' : Env} {H H' : Heap}

theorem stp_set (hk : setter i.op = true) (h : stp cl i e H = some (e', H')) : ∃ x, x.isLv = false ∧ e' = setDst i.dst x e := by
  unfold stp at h
  cases hw : wantedS e i.guard with
  | none => rw [hw] at h; cases h
  | some b =>
    rw [hw] at h
    cases b with
    | false =>
      simp only [Option.some.injEq, Prod.mk.injEq] at h
      obtain ⟨rfl, rfl⟩ := h
      exact ⟨_, rfl, rfl⟩
    | true =>
      simp only at h
      have ho : ∃ q, opS cl i.dst e H i.op = some (.go q e' H') := by
        split at h
        · rename_i q e2 H2 ho
          simp only [Option.some.injEq, Prod.mk.injEq] at h
          obtain ⟨rfl, rfl⟩ := h
          exact ⟨q, ho⟩
        · cases h
      obtain ⟨q, ho⟩ := ho
      obtain ⟨dst, op, guard⟩ := i
      simp only at ho hk
      cases op <;> try (simp only [setter, Bool.false_eq_true] at hk; done)
      all_goals
        simp only [opS] at ho
        repeat' (split at ho)
        all_goals first
          | (cases ho; done)
          | (simp only [Option.some.injEq, Out.go.injEq] at ho
             obtain ⟨_, rfl, rfl⟩ := ho
             first
               | exact ⟨_, rfl, rfl⟩
               | (rename_i hv _; exact ⟨_, opv_nl hv, rfl⟩))

theorem get_set (d : Option Nat) (x : Sl) (e : Env) (s : Nat) : (setDst d x e).get s = if d = some s then x else e.get s := by
  cases d with
  | none => simp [setDst]
  | some k =>
    simp only [setDst, get_cons, Option.some.injEq]
    by_cases h : s = k
    · subst h; simp
    · rw [if_neg h, if_neg (Ne.symm h)]

theorem lvin_stp (hl : LvIn L e) (hi : okLB L i = true) (h : stp cl i e H = some (e', H')) : LvIn L e' := by
  intro s hs
  simp only [okLB, Bool.and_eq_true, bne_iff_ne, ne_eq] at hi
  obtain ⟨⟨h1, h2⟩, h3⟩ := hi
  by_cases hd : i.dst = some s
  · rw [hd] at h1
    simp only [Bool.or_eq_true] at h1
    rcases h1 with h1 | h1
    · simpa using h1
    · obtain ⟨x, hx, rfl⟩ := stp_set h1 h
      rw [get_set, if_pos hd, hx] at hs
      cases hs
  · rcases stp_sames (kind_x h3) h hd with he | he
    · exact hl s (he ▸ hs)
    · exact hl s he.1

theorem quiet_setter {op : AOp} (h : quiet (kindOf pf op) = true) : setter op = true := by
  cases op <;> simp [kindOf, quiet] at h <;> rfl

theorem qv_off {d : Option Nat} (hq : quiet (kindOf pf i.op) = true) (h : Off d e e') (hd : ∀ s ∈ i.looks, d ≠ some s) : qv cl i e H = qv cl i e' H := by
  unfold qv
  rw [wanted_sames (i := i) (e := e) (e' := e') fun s k => off_sames h (hd s k)]
  have hd' : ∀ s ∈ i.op.looks, d ≠ some s := fun s k => hd s (by simp [AInstr.looks, k])
  obtain ⟨dst, op, guard⟩ := i
  simp only at hd' ⊢
  cases op
  case call f xs => simp only [allAV_sames (e := e) (e' := e') (l := xs) fun s k => off_sames h (hd' s k)]
  all_goals simp only [opv_off h hd' H]

theorem qv_p (hk : kindOf pf i.op = .p) (h : ∀ s ∈ i.looks, Sames (e.get s) (e'.get s)) : qv cl i e H = qv cl i e' H' := by
  unfold qv
  rw [wanted_sames (i := i) (e := e) (e' := e') h]
  have hd' : ∀ s ∈ i.op.looks, Sames (e.get s) (e'.get s) := fun s k => h s (by simp [AInstr.looks, k])
  obtain ⟨dst, op, guard⟩ := i
  simp only at hd' hk ⊢
  cases op
  case call f xs => simp only [kindOf] at hk; split at hk <;> cases hk
  all_goals simp only [opv_p hk hd' H H']

theorem qv_l {d : Option Nat} (hk : kindOf pf i.op = .l) (h : Off d e e') (hd : ∀ s ∈ i.looks, d ≠ some s) : qv cl i e H = qv cl i e' H' := by
  rw [qv_off (pf := pf) (by rw [hk]; rfl) h hd]
  unfold qv
  obtain ⟨dst, op, guard⟩ := i
  simp only at hk ⊢
  cases op <;> simp only [kindOf, reduceCtorEq] at hk
  case call f xs => split at hk <;> cases hk
  case ldl sz ag s => simp only [opv]
  case ldp sz ag x => simp only [opv, ldS]

def invK : Kd → Kd → Bool
  | _, .x => false
  | .p, _ => true
  | .l, .w => false
  | .l, _ => true
  | .o, .p => true
  | .o, .l => true
  | .o, .o => true
  | .o, .r => true
  | .o, .a => true
  | .r, .p => true
  | .r, .l => true
  | .r, .o => true
  | .r, .r => true
  | _, _ => false

theorem comm_inv {u v : Kd} (h : commK u v = true) : (quiet u = true ∧ invK u v = true) ∨ (quiet v = true ∧ invK v u = true) := by
  cases u <;> cases v <;> simp [commK, quiet, invK] at h ⊢

theorem off_set_self {d : Option Nat} {x : Sl} (hn : ∀ s, d = some s → (e.get s).isLv = false) (hx : x.isLv = false) : Off d (setDst d x e) e where
  eq := fun s hs => by rw [get_set, if_neg hs]
  nl := fun s hs => by rw [get_set, if_pos hs]; exact ⟨hx, hn s hs⟩

theorem Off.symm {d : Option Nat} (h : Off d e e') : Off d e' e := ⟨fun s hs => (h.eq s hs).symm, fun s hs => ⟨(h.nl s hs).2, (h.nl s hs).1⟩⟩
theorem Off.trans {d : Option Nat} {e'' : Env} (h : Off d e e') (k : Off d e' e'') : Off d e e'' := ⟨fun s hs => (h.eq s hs).trans (k.eq s hs), fun s hs => ⟨(h.nl s hs).1, (k.nl s hs).2⟩⟩
theorem Off.refl (e : Env) : Off none e e := ⟨fun _ _ => rfl, fun _ h => by cases h⟩

theorem kx_of_invK {op : AOp} {y : Kd} (h : invK y (kindOf pf op) = true) : ∀ pf, kindOf pf op ≠ .x := by
  refine kind_x fun hx => ?_
  cases op <;> simp [kindOf] at hx <;> cases y <;> simp [invK, kindOf] at h

theorem setter_of_k {op : AOp} (h1 : kindOf pf op ≠ .x) (h2 : kindOf pf op ≠ .w) : setter op = true := by
  cases op <;> first | rfl | (simp [kindOf] at h1 h2)

theorem app_objs {sz : Nat} {b x : AV} {r : AV} (h : appS H sz b x = some (r, H')) : H.next ≤ H'.next ∧ (∀ id cs, id < H.next → (H'.get id = some (.obj cs) ↔ H.get id = some (.obj cs))) ∧ ∀ id cs, H'.get id = some (.obj cs) → id < H'.next → id < H.next := by
  unfold appS at h
  have put : ∀ {id : Nat} {bl : Blk} {n z : _} {xs : List AV}, H.get id = some (.arr n z xs) → (∀ cs, bl ≠ .obj cs) → H.next ≤ (H.put id (some bl)).next ∧ (∀ id' cs, id' < H.next → ((H.put id (some bl)).get id' = some (.obj cs) ↔ H.get id' = some (.obj cs))) ∧
      ∀ id' cs, (H.put id (some bl)).get id' = some (.obj cs) → id' < (H.put id (some bl)).next → id' < H.next := fun {id bl n z xs} hg hb => by
    refine ⟨Nat.le_refl _, fun id' cs _ => ?_, fun id' cs _ hlt => hlt⟩
    simp only [Heap.put]
    by_cases e : id' = id
    · subst e
      rw [if_pos rfl, hg]
      exact ⟨fun h => absurd (Option.some.inj h) (hb cs), fun h => by cases h⟩
    · rw [if_neg e]
  have new : ∀ {bl : Blk}, (∀ cs, bl ≠ .obj cs) → H.next ≤ (H.new bl).next ∧ (∀ id' cs, id' < H.next → ((H.new bl).get id' = some (.obj cs) ↔ H.get id' = some (.obj cs))) ∧
      ∀ id' cs, (H.new bl).get id' = some (.obj cs) → id' < (H.new bl).next → id' < H.next := fun {bl} hb => by
    refine ⟨Nat.le_succ _, fun id' cs hlt => ?_, fun id' cs hg hlt => ?_⟩
    · simp only [Heap.new]
      rw [if_neg (by omega)]
    · simp only [Heap.new] at hg hlt
      by_cases e : id' = H.next
      · rw [if_pos e] at hg; exact absurd (Option.some.inj hg) (hb cs)
      · omega
  repeat' (split at h)
  all_goals first
    | (cases h; done)
    | (simp only [Option.some.injEq, Prod.mk.injEq] at h
       obtain ⟨_, rfl⟩ := h
       first
         | exact put (by assumption) (fun cs hc => by cases hc)
         | exact new (fun cs hc => by cases hc)
         | exact ⟨Nat.le_refl _, fun _ _ _ => Iff.rfl, fun _ _ _ h => h⟩)

/-- what makes or changes an array leaves the variables on the heap as they were -/
theorem stp_objs (hk : kindOf pf i.op = .a) (h : stp cl i e H = some (e', H')) : H.next ≤ H'.next ∧ (∀ id cs, id < H.next → (H'.get id = some (.obj cs) ↔ H.get id = some (.obj cs))) ∧ ∀ id cs, H'.get id = some (.obj cs) → id < H'.next → id < H.next := by
  have new : ∀ {n z : _} {xs : List AV}, H.next ≤ (H.new (.arr n z xs)).next ∧ (∀ id' cs, id' < H.next → ((H.new (.arr n z xs)).get id' = some (.obj cs) ↔ H.get id' = some (.obj cs))) ∧
      ∀ id' cs, (H.new (.arr n z xs)).get id' = some (.obj cs) → id' < (H.new (.arr n z xs)).next → id' < H.next := fun {n z xs} => by
    refine ⟨Nat.le_succ _, fun id' cs hlt => ?_, fun id' cs hg hlt => ?_⟩
    · simp only [Heap.new]
      rw [if_neg (by omega)]
    · simp only [Heap.new] at hg hlt
      by_cases e : id' = H.next
      · rw [if_pos e] at hg; cases hg
      · omega
  unfold stp at h
  split at h
  · cases h
  · simp only [Option.some.injEq, Prod.mk.injEq] at h
    obtain ⟨_, rfl⟩ := h
    exact ⟨Nat.le_refl _, fun _ _ _ => Iff.rfl, fun _ _ _ h => h⟩
  · split at h
    · rename_i q e2 H2 ho
      simp only [Option.some.injEq, Prod.mk.injEq] at h
      obtain ⟨rfl, rfl⟩ := h
      obtain ⟨dst, op, guard⟩ := i
      simp only at hk ho
      cases op <;> simp only [kindOf, reduceCtorEq] at hk
      case call f xs => split at hk <;> cases hk
      case app sz b x =>
        simp only [opS] at ho
        repeat' (split at ho)
        all_goals first | (cases ho; done) | skip
        rename_i ha
        simp only [Option.some.injEq, Out.go.injEq] at ho
        obtain ⟨_, _, rfl⟩ := ho
        exact app_objs ha
      all_goals
        simp only [opS] at ho
        repeat' (split at ho)
        all_goals first | (cases ho; done) | skip
        simp only [Option.some.injEq, Out.go.injEq] at ho
        obtain ⟨_, _, rfl⟩ := ho
        exact new
    · cases h

theorem qv_o {d : Option Nat} (hk : kindOf pf i.op = .o) (h : Off d e e') (hd : ∀ s ∈ i.looks, d ≠ some s) (h1 : H.next ≤ H'.next) (h2 : ∀ id cs, id < H.next → (H'.get id = some (.obj cs) ↔ H.get id = some (.obj cs)))
    (h3 : ∀ id cs, H'.get id = some (.obj cs) → id < H'.next → id < H.next) : qv cl i e H = qv cl i e' H' := by
  rw [qv_off (pf := pf) (by rw [hk]; rfl) h hd]
  unfold qv
  obtain ⟨dst, op, guard⟩ := i
  simp only at hk ⊢
  cases op <;> simp only [kindOf, reduceCtorEq] at hk
  case call f xs => split at hk <;> cases hk
  case ldo sz ag x =>
    have key : opv e' H (.ldo sz ag x) = opv e' H' (.ldo sz ag x) := by
      simp only [opv]
      split
      · rename_i id off _
        have hobj : ∀ {K K' : Heap}, (∀ cs, K.get id = some (.obj cs) → K'.get id = some (.obj cs)) → ∀ z, (ldS e' K sz ag (.v (.ptr id off))).map Sl.v = some z → (ldS e' K' sz ag (.v (.ptr id off))).map Sl.v = some z := fun {K K'} hkk z hz => by
          simp only [ldS] at hz ⊢
          split at hz
          · rename_i cs hcs
            rw [hkk cs hcs]; exact hz
          · cases hz
        refine ext_some fun z => ⟨fun hz => ?_, fun hz => ?_⟩
        · by_cases hid : id < H.next
          · rw [if_pos hid] at hz
            rw [if_pos (by omega)]
            exact hobj (fun cs hcs => (h2 id cs hid).2 hcs) z hz
          · rw [if_neg hid] at hz; cases hz
        · by_cases hid' : id < H'.next
          · rw [if_pos hid'] at hz
            have hlt : id < H.next := by
              simp only [ldS] at hz
              split at hz
              · rename_i cs hcs
                exact h3 id cs hcs hid'
              · cases hz
            rw [if_pos hlt]
            exact hobj (fun cs hcs => (h2 id cs hlt).1 hcs) z hz
          · rw [if_neg hid'] at hz; cases hz
      · rfl
    simp only [key]

theorem inv_stp (hp : PureC pf cl) (hi : invK (kindOf pf a.op) (kindOf pf b.op) = true) (hm : missB b.dst a.looks = true) (hb : setter b.op = true → ∀ s, b.dst = some s → (e.get s).isLv = false) (h : stp cl b e H = some (e', H')) :
    qv cl a e H = qv cl a e' H' := by
  have hd := miss_spec hm
  have hx := kx_of_invK hi
  cases hk : kindOf pf a.op with
  | p => exact qv_p hk fun s hs => stp_sames hx h (hd s hs)
  | l =>
    rw [hk] at hi
    have hset : setter b.op = true := setter_of_k (pf := pf) (hx pf) (by intro hw; rw [hw] at hi; cases hi)
    obtain ⟨x, hx2, rfl⟩ := stp_set hset h
    exact qv_l hk (off_set_self (hb hset) hx2).symm hd
  | o =>
    rw [hk] at hi
    by_cases hba : kindOf pf b.op = .a
    · have hset : setter b.op = true := setter_of_k (pf := pf) (hx pf) (by rw [hba]; intro hw; cases hw)
      obtain ⟨h1, h2, h3⟩ := stp_objs hba h
      obtain ⟨x, hx2, rfl⟩ := stp_set hset h
      exact qv_o hk (off_set_self (hb hset) hx2).symm hd h1 h2 h3
    have hq : quiet (kindOf pf b.op) = true := by
      revert hi hba
      cases kindOf pf b.op <;> simp [invK, quiet]
    obtain ⟨rfl, x, _, hx2, rfl⟩ := quiet_stp hp hq h
    exact qv_off (pf := pf) (by rw [hk]; rfl) (off_set_self (hb (quiet_setter hq)) hx2).symm hd
  | a => rw [hk] at hi; revert hi; cases kindOf pf b.op <;> simp [invK]
  | r =>
    rw [hk] at hi
    have hq : quiet (kindOf pf b.op) = true := by
      revert hi
      cases kindOf pf b.op <;> simp [invK, quiet]
    obtain ⟨rfl, x, _, hx2, rfl⟩ := quiet_stp hp hq h
    exact qv_off (pf := pf) (by rw [hk]; rfl) (off_set_self (hb (quiet_setter hq)) hx2).symm hd
  | k => rw [hk] at hi; revert hi; cases kindOf pf b.op <;> simp [invK]
  | w => rw [hk] at hi; revert hi; cases kindOf pf b.op <;> simp [invK]
  | x => rw [hk] at hi; revert hi; cases kindOf pf b.op <;> simp [invK]

theorem dst_nl (hl : LvIn L e) (hL : ∀ s, i.dst = some s → s ∉ L) : ∀ s, i.dst = some s → (e.get s).isLv = false := by
  intro s hs
  by_cases h : (e.get s).isLv = true
  · exact absurd (hl s h) (hL s hs)
  · simpa using h

variable {e1 e2 : Env} {H1 H2 : Heap}

/-- a quiet one, taken behind instead of ahead -/
theorem swap_back (hp : PureC pf cl) (hq : quiet (kindOf pf a.op) = true) (hi : invK (kindOf pf a.op) (kindOf pf b.op) = true) (hm1 : missB a.dst b.looks = true) (hm2 : missB b.dst a.looks = true) (hdd : ∀ s, a.dst = some s → b.dst ≠ some s)
    (hna : ∀ s, a.dst = some s → (e.get s).isLv = false) (hnb : setter b.op = true → ∀ s, b.dst = some s → (e.get s).isLv = false)
    (h1 : stp cl a e H = some (e1, H1)) (h2 : stp cl b e1 H1 = some (e2, H2)) : ∃ e1' H1' e2', stp cl b e H = some (e1', H1') ∧ stp cl a e1' H1' = some (e2', H2) ∧ Off none e2 e2' := by
  obtain ⟨rfl, x, hqv, hx, rfl⟩ := quiet_stp hp hq h1
  have hoff : Off a.dst (setDst a.dst x e) e := off_set_self hna hx
  obtain ⟨e2', k1, k2⟩ := stp_off hoff (kx_of_invK hi) (fun s hs he => hdd s he hs) (miss_spec hm1) h2
  have hqv2 : qv cl a e2' H2 = some x := by rw [← inv_stp hp hi hm2 hnb k1]; exact hqv
  refine ⟨e2', H2, _, k1, stp_quiet hp hq hqv2, ⟨fun s _ => ?_, fun s hs => by cases hs⟩⟩
  rw [get_set]
  by_cases hs : a.dst = some s
  · rw [if_pos hs]
    rcases stp_sames (kx_of_invK hi) h2 (s := s) (hdd s hs) with he | he
    · rw [← he, get_set, if_pos hs]
    · rw [get_set, if_pos hs, hx] at he; cases he.1
  · rw [if_neg hs]; exact k2.eq s hs

/-- a quiet one, taken ahead instead of behind -/
theorem swap_ahead (hp : PureC pf cl) (hq : quiet (kindOf pf a.op) = true) (hi : invK (kindOf pf a.op) (kindOf pf b.op) = true) (hm1 : missB a.dst b.looks = true) (hm2 : missB b.dst a.looks = true) (hdd : ∀ s, a.dst = some s → b.dst ≠ some s)
    (hna : ∀ s, a.dst = some s → (e.get s).isLv = false) (hnb : setter b.op = true → ∀ s, b.dst = some s → (e.get s).isLv = false)
    (h1 : stp cl b e H = some (e1, H1)) (h2 : stp cl a e1 H1 = some (e2, H2)) : ∃ e1' H1' e2', stp cl a e H = some (e1', H1') ∧ stp cl b e1' H1' = some (e2', H2) ∧ Off none e2 e2' := by
  obtain ⟨rfl, x, hqv, hx, rfl⟩ := quiet_stp hp hq h2
  have hqv2 : qv cl a e H = some x := by rw [inv_stp hp hi hm2 hnb h1]; exact hqv
  have hoff : Off a.dst e (setDst a.dst x e) := (off_set_self hna hx).symm
  obtain ⟨e2', k1, k2⟩ := stp_off hoff (kx_of_invK hi) (fun s hs he => hdd s he hs) (miss_spec hm1) h1
  refine ⟨_, _, e2', stp_quiet hp hq hqv2, k1, ⟨fun s _ => ?_, fun s hs => by cases hs⟩⟩
  rw [get_set]
  by_cases hs : a.dst = some s
  · rw [if_pos hs]
    rcases stp_sames (kx_of_invK hi) k1 (s := s) (hdd s hs) with he | he
    · rw [← he, get_set, if_pos hs]
    · rw [get_set, if_pos hs, hx] at he; cases he.1
  · rw [if_neg hs]; exact k2.eq s hs

/-- what is asked of each operation of a region whose order does not matter -/
def okOne (L : List Nat) (i : AInstr) : Bool :=
  okLB L i && (setter i.op == !(match i.dst with | some d => L.contains d | none => false) || i.dst == none)

theorem okOne_L {L : List Nat} (h : okOne L i = true) : okLB L i = true := by
  simp only [okOne, Bool.and_eq_true] at h
  exact h.1

theorem okOne_nl (hl : LvIn L e) (h : okOne L i = true) (hq : setter i.op = true) : ∀ s, i.dst = some s → (e.get s).isLv = false := by
  refine dst_nl hl fun s hs hm => ?_
  simp only [okOne, Bool.and_eq_true, hs, hq] at h
  simp [hm] at h

theorem swap_ops (hp : PureC pf cl) (hl : LvIn L e) (hoa : okOne L a = true) (hob : okOne L b = true) (hc : commB pf a b = true) (h1 : stp cl a e H = some (e1, H1)) (h2 : stp cl b e1 H1 = some (e2, H2)) :
    ∃ e1' H1' e2', stp cl b e H = some (e1', H1') ∧ stp cl a e1' H1' = some (e2', H2) ∧ Off none e2 e2' := by
  simp only [commB, apartB, Bool.and_eq_true, Bool.or_eq_true, beq_iff_eq, bne_iff_ne, ne_eq] at hc
  obtain ⟨hk, ⟨hm1, hm2⟩, hd⟩ := hc
  have hdd : ∀ s, a.dst = some s → b.dst ≠ some s := fun s ha hb => by
    rcases hd with hd | hd
    · rw [ha] at hd; cases hd
    · exact hd (ha.trans hb.symm)
  rcases comm_inv hk with ⟨hq, hi⟩ | ⟨hq, hi⟩
  · exact swap_back hp hq hi hm1 hm2 hdd (okOne_nl hl hoa (quiet_setter hq)) (fun hqb => okOne_nl hl hob hqb) h1 h2
  · exact swap_ahead hp hq hi hm2 hm1 (fun s hb ha => hdd s ha hb) (okOne_nl hl hob (quiet_setter hq)) (fun hqa => okOne_nl hl hoa hqa) h1 h2

end
/-- the same but for one slot, which holds a local variable in the second alone -/
structure On (d : Nat) (cs : List AV) (e e' : Env) : Prop where
  eq : ∀ s, s ≠ d → e.get s = e'.get s
  nl : (e.get d).isLv = false
  lv : e'.get d = .lv cs

section
variable {pf : Nat → Bool} {cl : Caller} {d : Nat} {cs : List AV} {e e' : Env} {H : Heap}

theorem On.sames (h : On d cs e e') {s : Nat} (hs : s ≠ d) : Sames (e.get s) (e'.get s) := .inl (h.eq s hs)

theorem on_set (h : On d cs e e') {x : Option Nat} (hx : x ≠ some d) (v : Sl) : On d cs (setDst x v e) (setDst x v e') where
  eq := fun s hs => by
    cases x with
    | none => exact h.eq s hs
    | some k =>
      simp only [setDst, get_cons]
      by_cases e : s = k
      · simp [e]
      · rw [if_neg e, if_neg e]; exact h.eq s hs
  nl := by
    cases x with
    | none => exact h.nl
    | some k =>
      simp only [setDst, get_cons]
      rw [if_neg (fun e => hx (by rw [e]))]; exact h.nl
  lv := by
    cases x with
    | none => exact h.lv
    | some k =>
      simp only [setDst, get_cons]
      rw [if_neg (fun e => hx (by rw [e]))]; exact h.lv

theorem ldS_on (h : On d cs e e') {sz : Nat} {ag : Bool} {x : Sl} {r : AV} (hr : ldS e H sz ag x = some r) : ldS e' H sz ag x = some r := by
  cases x with
  | lp s off =>
    simp only [ldS] at hr ⊢
    by_cases hs : s = d
    · subst hs
      have := h.nl
      split at hr
      · rename_i hq; rw [hq] at this; cases this
      · cases hr
    · rw [← h.eq s hs]; exact hr
  | v y => cases y <;> exact hr
  | no => exact hr
  | un => exact hr
  | lv c => exact hr

theorem opv_on (h : On d cs e e') {op : AOp} (hd : ∀ s ∈ op.looks, s ≠ d) {x : Sl} (hx : opv e H op = some x) : opv e' H op = some x := by
  have hs : ∀ s ∈ op.looks, Sames (e.get s) (e'.get s) := fun s k => h.sames (hd s k)
  by_cases hk : kindOf (fun _ => true) op = .p
  · rw [← opv_p hk hs H H]; exact hx
  · cases op <;> simp only [kindOf, reduceCtorEq, not_false_eq_true, not_true_eq_false] at hk <;> try (exact hx; done)
    case ld sz ag y =>
      simp only [opv, Option.map_eq_some_iff] at hx ⊢
      obtain ⟨r, hr, rfl⟩ := hx
      exact ⟨r, by rw [← sl_sames (o := y) hs]; exact ldS_on h hr, rfl⟩
    case ldp sz ag y =>
      simp only [opv] at hx ⊢
      rw [← sl_sames (o := y) hs]
      split at hx
      · simp only [Option.map_eq_some_iff] at hx ⊢
        obtain ⟨r, hr, rfl⟩ := hx
        exact ⟨r, ldS_on h hr, rfl⟩
      · cases hx
    case ldo sz ag y =>
      simp only [opv] at hx ⊢
      rw [← sl_sames (o := y) hs]
      split at hx
      · split at hx
        · rename_i hlt
          rw [if_pos hlt]
          simp only [Option.map_eq_some_iff] at hx ⊢
          obtain ⟨r, hr, rfl⟩ := hx
          exact ⟨r, ldS_on h hr, rfl⟩
        · cases hx
      · cases hx
    case ldl sz ag s =>
      simp only [opv] at hx ⊢
      rw [← h.eq s (hd s (by simp [AOp.looks]))]; exact hx
    case cvb y =>
      simp only [opv] at hx ⊢
      rw [← av_sames (o := y) hs]; exact hx
    case ix sz y z =>
      simp only [AOp.looks, List.mem_append] at hs
      simp only [opv] at hx ⊢
      rw [← av_sames (o := y) fun s k => hs s (.inl k), ← av_sames (o := z) fun s k => hs s (.inr k)]; exact hx
    case sts sz y z =>
      simp only [AOp.looks, List.mem_append] at hs
      simp only [opv] at hx ⊢
      rw [← sl_sames (o := y) fun s k => hs s (.inl k), ← av_sames (o := z) fun s k => hs s (.inr k)]; exact hx
    case mpl m z0 ok y z =>
      simp only [AOp.looks, List.mem_append] at hs
      simp only [opv] at hx ⊢
      rw [← av_sames (o := y) fun s k => hs s (.inl k), ← av_sames (o := z) fun s k => hs s (.inr k)]; exact hx
    case sl sz y lo hi mx =>
      simp only [AOp.looks, List.mem_append] at hs
      simp only [opv] at hx ⊢
      rw [← av_sames (o := y) fun s k => hs s (.inl k), ← optAV_sames (o := lo) fun s k => hs s (.inr (.inl k)), ← optAV_sames (o := hi) fun s k => hs s (.inr (.inr (.inl k))), ← optAV_sames (o := mx) fun s k => hs s (.inr (.inr (.inr k)))]
      exact hx

theorem stS_v {new : List AV} {y : AV} {e2 : Env} {H2 : Heap} (h : stS e H new (.v y) = some (e2, H2)) (e' : Env) : stS e' H new (.v y) = some (e', H2) := by
  cases y <;> simp only [stS] at h ⊢ <;> try (cases h; done)
  all_goals
    repeat' (split at h)
    all_goals first | (cases h; done) | (simp only [Option.some.injEq, Prod.mk.injEq] at h; simp_all)

theorem opS_on (h : On d cs e e') {op : AOp} (hk : kindOf pf op ≠ .x ∧ kindOf pf op ≠ .w) {x : Option Nat} (hxd : x ≠ some d) (hd : ∀ s ∈ op.looks, s ≠ d) {q : Ex} {e1 : Env} {H1 : Heap}
    (hs : opS cl x e H op = some (.go q e1 H1)) : ∃ e1', opS cl x e' H op = some (.go q e1' H1) ∧ On d cs e1 e1' := by
  have hav : ∀ {o : Opd}, (∀ s ∈ o.slots, s ≠ d) → e.av o = e'.av o := fun {o} ho => av_sames fun s k => h.sames (ho s k)
  have hsl : ∀ {o : Opd}, (∀ s ∈ o.slots, s ≠ d) → e.sl o = e'.sl o := fun {o} ho => sl_sames fun s k => h.sames (ho s k)
  cases op <;> try (simp only [kindOf, ne_eq, not_true_eq_false, and_false, false_and] at hk; done)
  case aob c =>
    simp only [opS, Option.some.injEq, Out.go.injEq] at hs ⊢
    obtain ⟨rfl, rfl, rfl⟩ := hs
    exact ⟨_, ⟨rfl, rfl, rfl⟩, on_set h hxd _⟩
  case bob sz y =>
    simp only [opS] at hs ⊢
    rw [← hav (o := y) hd]
    repeat' (split at hs)
    all_goals first | (cases hs; done) | skip
    rename_i v hv hl
    simp only [Option.some.injEq, Out.go.injEq] at hs
    obtain ⟨rfl, rfl, rfl⟩ := hs
    refine ⟨_, ?_, on_set h hxd _⟩
    first | rfl | simp_all
  case mkmp =>
    simp only [opS, Option.some.injEq, Out.go.injEq] at hs ⊢
    obtain ⟨rfl, rfl, rfl⟩ := hs
    exact ⟨_, ⟨rfl, rfl, rfl⟩, on_set h hxd _⟩
  case mpu m y z u =>
    simp only [AOp.looks, List.mem_append] at hd
    simp only [opS] at hs ⊢
    rw [← hav (o := y) fun s k => hd s (.inl k), ← hav (o := z) fun s k => hd s (.inr (.inl k)), ← hav (o := u) fun s k => hd s (.inr (.inr k))]
    repeat' (split at hs)
    all_goals first | (cases hs; done) | skip
    all_goals
      simp only [Option.some.injEq, Out.go.injEq] at hs
      obtain ⟨rfl, rfl, rfl⟩ := hs
      refine ⟨_, ?_, on_set h hxd _⟩
      simp_all
  case app sz y z =>
    simp only [AOp.looks, List.mem_append] at hd
    simp only [opS] at hs ⊢
    rw [← hav (o := y) fun s k => hd s (.inl k), ← hav (o := z) fun s k => hd s (.inr k)]
    repeat' (split at hs)
    all_goals first | (cases hs; done) | skip
    rename_i u v hu hv _ r H' ha
    simp only [Option.some.injEq, Out.go.injEq] at hs
    obtain ⟨rfl, rfl, rfl⟩ := hs
    refine ⟨_, ?_, on_set h hxd _⟩
    first | rfl | simp_all
  case sto sz y z =>
    simp only [AOp.looks, List.mem_append] at hd
    simp only [opS] at hs ⊢
    rw [← hav (o := z) fun s k => hd s (.inr k), ← hsl (o := y) fun s k => hd s (.inl k)]
    split at hs
    · rename_i q hq
      split at hs
      · rename_i w hw
        split at hs
        · rename_i hl
          simp only [if_pos hl]
          cases hst : stS e H w.cells (.v q) with
          | none => rw [hst] at hs; cases hs
          | some p =>
            obtain ⟨e2, H2⟩ := p
            rw [hst] at hs
            simp only [Option.some.injEq, Out.go.injEq] at hs
            obtain ⟨rfl, rfl, rfl⟩ := hs
            exact ⟨_, by rw [stS_v hst e'], on_set h hxd _⟩
        · cases hs
      · cases hs
    · cases hs
  case apz sz z0 y z =>
    simp only [AOp.looks, List.mem_append] at hd
    simp only [opS] at hs ⊢
    rw [← hav (o := y) fun s k => hd s (.inl k), ← hav (o := z) fun s k => hd s (.inr k)]
    repeat' (split at hs)
    all_goals first | (cases hs; done) | skip
    simp only [Option.some.injEq, Out.go.injEq] at hs
    obtain ⟨rfl, rfl, rfl⟩ := hs
    refine ⟨_, ?_, on_set h hxd _⟩
    first | rfl | simp_all
  case mkm z k ps =>
    simp only [opS] at hs ⊢
    rw [← allParts_sames (l := ps) fun s j => h.sames (hd s j)]
    repeat' (split at hs)
    all_goals first | (cases hs; done) | skip
    simp only [Option.some.injEq, Out.go.injEq] at hs
    obtain ⟨rfl, rfl, rfl⟩ := hs
    refine ⟨_, ?_, on_set h hxd _⟩
    first | rfl | simp_all
  case mks sz z y =>
    simp only [opS] at hs ⊢
    rw [← hav (o := y) hd]
    repeat' (split at hs)
    all_goals first | (cases hs; done) | skip
    rename_i kk hv hl
    simp only [Option.some.injEq, Out.go.injEq] at hs
    obtain ⟨rfl, rfl, rfl⟩ := hs
    refine ⟨_, ?_, on_set h hxd _⟩
    first | rfl | simp_all
  case call f xs =>
    simp only [opS] at hs ⊢
    rw [← allAV_sames (e := e) (e' := e') (l := xs) fun s k => h.sames (hd s k)]
    repeat' (split at hs)
    all_goals first | (cases hs; done) | skip
    rename_i vs hvs _ v H' hc
    simp only [Option.some.injEq, Out.go.injEq] at hs
    obtain ⟨rfl, rfl, rfl⟩ := hs
    refine ⟨_, ?_, on_set h hxd _⟩
    first | rfl | simp_all
  case callc f xs cs =>
    simp only [AOp.looks, List.mem_append] at hd
    simp only [opS] at hs ⊢
    rw [← allAV_sames (e := e) (e' := e') (l := xs) fun s k => h.sames (hd s (.inl k))]
    repeat' (split at hs)
    all_goals first | (cases hs; done) | skip
    rename_i vs hvs _ v H' hc hcs
    simp only [Option.some.injEq, Out.go.injEq] at hs
    obtain ⟨rfl, rfl, rfl⟩ := hs
    refine ⟨setDst x (.v v) e', ?_, on_set h hxd _⟩
    have hset := on_set h hxd (.v v)
    have : cs.all (sameLd (setDst x (.v v) e') H') = true := by
      rw [List.all_eq_true] at hcs ⊢
      intro q hq
      have h1 := hcs q hq
      have hl : ∀ s ∈ q.1 :: q.2.2.2.slots, s ≠ d := fun s hs => hd s (.inr (List.mem_flatMap.2 ⟨q, hq, hs⟩))
      unfold sameLd at h1 ⊢
      rw [← sl_sames (o := q.2.2.2) fun s k => hset.sames (hl s (List.mem_cons_of_mem _ k)), ← hset.eq q.1 (hl q.1 List.mem_cons_self)]
      split at h1
      · split at h1
        · rename_i z hz
          rw [ldS_on hset hz]; exact h1
        · cases h1
      · cases h1
    simp only [this, if_true]
  case callv f xs =>
    simp only [AOp.looks, List.mem_append] at hd
    simp only [opS] at hs ⊢
    rw [← hav (o := f) fun s k => hd s (.inl k), ← allAV_sames (e := e) (e' := e') (l := xs) fun s k => h.sames (hd s (.inr k))]
    repeat' (split at hs)
    all_goals first | (cases hs; done) | skip
    rename_i gg cap vs hf hvs _ v H' hc
    simp only [Option.some.injEq, Out.go.injEq] at hs
    obtain ⟨rfl, rfl, rfl⟩ := hs
    refine ⟨_, ?_, on_set h hxd _⟩
    first | rfl | simp_all
  all_goals
    simp only [opS] at hs ⊢
    split at hs
    · rename_i y hy
      simp only [Option.some.injEq, Out.go.injEq] at hs
      obtain ⟨rfl, rfl, rfl⟩ := hs
      rw [opv_on h hd hy]
      exact ⟨_, rfl, on_set h hxd _⟩
    · cases hs

theorem stp_on (h : On d cs e e') {i : AInstr} (hk : kindOf pf i.op ≠ .x ∧ kindOf pf i.op ≠ .w) (hxd : i.dst ≠ some d) (hd : ∀ s ∈ i.looks, s ≠ d) {e1 : Env} {H1 : Heap} (hs : stp cl i e H = some (e1, H1)) :
    ∃ e1', stp cl i e' H = some (e1', H1) ∧ On d cs e1 e1' := by
  unfold stp at hs ⊢
  rw [← wanted_sames (i := i) (e := e) (e' := e') fun s k => h.sames (hd s k)]
  cases hw : wantedS e i.guard with
  | none => rw [hw] at hs; cases hs
  | some b =>
    rw [hw] at hs
    cases b with
    | false =>
      simp only [Option.some.injEq, Prod.mk.injEq] at hs
      obtain ⟨rfl, rfl⟩ := hs
      exact ⟨_, rfl, on_set h hxd _⟩
    | true =>
      simp only at hs ⊢
      cases ho : opS cl i.dst e H i.op with
      | none => rw [ho] at hs; cases hs
      | some o =>
        rw [ho] at hs
        cases o with
        | pan v e2 H2 => cases hs
        | go q e2 H2 =>
          simp only [Option.some.injEq, Prod.mk.injEq] at hs
          obtain ⟨rfl, rfl⟩ := hs
          obtain ⟨e2', k1, k2⟩ := opS_on h hk hxd (fun s k => hd s (by simp [AInstr.looks, k])) ho
          exact ⟨e2', by rw [k1], k2⟩
end

/-- a new local variable, made ahead of what is neither a local variable nor changes one -/
def alvB (pf : Nat → Bool) (a b : AInstr) : Bool :=
  (match b.op, b.dst, b.guard with | .alv _, some _, none => true | _, _, _ => false) && (match kindOf pf a.op with | .w | .x => false | _ => true) && apartB a b

def commA (pf : Nat → Bool) (a b : AInstr) : Bool := commB pf a b || alvB pf a b

section
variable {pf : Nat → Bool} {cl : Caller} {L : List Nat} {i a b : AInstr} {e e' e1 e2 : Env} {H H' H1 H2 : Heap}

theorem swap_alv (hc : alvB pf a b = true) (h1 : stp cl a e H = some (e1, H1)) (h2 : stp cl b e1 H1 = some (e2, H2)) :
    ∃ e1' H1' e2', stp cl b e H = some (e1', H1') ∧ stp cl a e1' H1' = some (e2', H2) ∧ Off none e2 e2' := by
  simp only [alvB, apartB, Bool.and_eq_true, Bool.or_eq_true, beq_iff_eq, bne_iff_ne, ne_eq] at hc
  obtain ⟨⟨hb, hk⟩, ⟨hm1, hm2⟩, hd⟩ := hc
  obtain ⟨bd, bop, bg⟩ := b
  simp only at hb hm1 hm2 hd
  split at hb
  · rename_i cs d
    have hk' : kindOf pf a.op ≠ .x ∧ kindOf pf a.op ≠ .w := by
      cases hq : kindOf pf a.op <;> simp [hq] at hk <;> simp
    have had : a.dst ≠ some d := by
      rcases hd with hd | hd
      · rw [hd]; simp
      · exact hd
    have hlook : ∀ s ∈ a.looks, s ≠ d := fun s hs e => miss_spec hm2 s hs (by rw [e])
    have hsame := stp_sames (kind_x (op := a.op) (fun hx => hk'.1 (by
      revert hx; cases a.op <;> simp [kindOf]))) h1 (s := d) had
    have hlv : ∀ {x : Env}, (∀ c, x.get d ≠ .lv c) → (x.get d).isLv = false := fun {x} h => by
      cases hq : x.get d <;> first | rfl | exact absurd hq (h _)
    have h2' : (∀ c, e1.get d ≠ .lv c) ∧ e2 = (d, .lv cs) :: e1 ∧ H2 = H1 := by
      simp only [stp, wantedS, opS] at h2
      split at h2
      · rename_i q e3 H3 ho
        simp only [Option.some.injEq, Prod.mk.injEq] at h2
        split at ho
        · cases ho
        · rename_i hnl
          simp only [Option.some.injEq, Out.go.injEq] at ho
          obtain ⟨_, rfl, rfl⟩ := ho
          exact ⟨fun c hc => hnl c hc, h2.1.symm, h2.2.symm⟩
      · cases h2
    obtain ⟨n1, rfl, rfl⟩ := h2'
    have n0 : (e.get d).isLv = false := by
      rcases hsame with hs | hs
      · rw [hs]; exact hlv n1
      · have := hlv n1; rw [hs.2] at this; cases this
    have hon : On d cs e ((d, .lv cs) :: e) := ⟨fun s hs => by simp [get_cons, hs], n0, by simp [get_cons]⟩
    obtain ⟨e2', k1, k2⟩ := stp_on hon hk' had hlook h1
    refine ⟨(d, .lv cs) :: e, H, e2', ?_, k1, ⟨fun s _ => ?_, fun s hs => by cases hs⟩⟩
    · simp only [stp, wantedS, opS]
      cases hq : e.get d <;> first | rfl | (rw [hq] at n0; cases n0)
    · rw [get_cons]
      by_cases hs : s = d
      · rw [if_pos hs, hs, k2.lv]
      · rw [if_neg hs]; exact k2.eq s hs
  · cases hb

theorem swap_any (hp : PureC pf cl) (hl : LvIn L e) (hoa : okOne L a = true) (hob : okOne L b = true) (hc : commA pf a b = true) (h1 : stp cl a e H = some (e1, H1)) (h2 : stp cl b e1 H1 = some (e2, H2)) :
    ∃ e1' H1' e2', stp cl b e H = some (e1', H1') ∧ stp cl a e1' H1' = some (e2', H2) ∧ Off none e2 e2' := by
  simp only [commA, Bool.or_eq_true] at hc
  rcases hc with hc | hc
  · exact swap_ops hp hl hoa hob hc h1 h2
  · exact swap_alv hc h1 h2

/-- one taken first -/
theorem take_first (hp : PureC pf cl) {l2 : List AInstr} : ∀ {l1 : List AInstr} {e : Env} {H : Heap}, LvIn L e → (∀ j ∈ l1 ++ i :: l2, okOne L j = true) → (∀ j ∈ l1, commA pf j i = true) → ∀ {ef : Env} {Hf : Heap}, runS cl (l1 ++ i :: l2) e H = some (ef, Hf) →
    ∃ e1 H1 ef', stp cl i e H = some (e1, H1) ∧ runS cl (l1 ++ l2) e1 H1 = some (ef', Hf) ∧ Off none ef ef'
  | [], e, H, hl, hok, hc, ef, Hf, h => by
    simp only [List.nil_append, runS] at h ⊢
    cases hs : stp cl i e H with
    | none => rw [hs] at h; cases h
    | some p =>
      obtain ⟨e1, H1⟩ := p
      rw [hs] at h
      exact ⟨e1, H1, ef, rfl, h, .refl _⟩
  | j :: l1, e, H, hl, hok, hc, ef, Hf, h => by
    simp only [List.cons_append, runS] at h
    cases hs : stp cl j e H with
    | none => rw [hs] at h; cases h
    | some p =>
      obtain ⟨ej, Hj⟩ := p
      rw [hs] at h
      have hj := hok j (by simp)
      have hio := hok i (by simp)
      obtain ⟨e1, H1, ef', k1, k2, k3⟩ := take_first hp (lvin_stp hl (okOne_L hj) hs) (fun m hm => hok m (by simp only [List.cons_append, List.mem_cons]; exact .inr hm)) (fun m hm => hc m (by simp [hm])) h
      obtain ⟨a1, A1, a2, m1, m2, m3⟩ := swap_any hp hl hj hio (hc j (by simp)) hs k1
      obtain ⟨ef2, n1, n2⟩ := runS_off (l := l1 ++ l2) m3 (fun m hm => by
        have ho := okOne_L (hok m (by
          simp only [List.cons_append, List.mem_cons, List.mem_append] at hm ⊢
          rcases hm with hm | hm
          · exact .inr (.inl hm)
          · exact .inr (.inr (.inr hm))))
        simp only [okLB, Bool.and_eq_true, bne_iff_ne, ne_eq] at ho
        exact ⟨kind_x ho.2, fun _ _ => nofun, fun _ _ => nofun⟩) k2
      refine ⟨a1, A1, ef2, m1, ?_, k3.trans n2⟩
      simp only [List.cons_append, runS, m2]
      exact n1
/-! ### a call, ahead of loads that its change does not turn -/
/-- without what is asked behind it -/
def AInstr.bare (i : AInstr) : AInstr := match i.op with
  | .callc f xs _ => ⟨i.dst, .call f xs, i.guard⟩
  | _ => i

def isCallc (i : AInstr) : Bool := match i.op with
  | .callc .. => true
  | _ => false

/-- the second may be taken ahead of the first: a call, and it is quiet; if it loads, it is asked for behind the call -/
def callcB (pf : Nat → Bool) (a b : AInstr) : Bool := match b.op with
  | .callc _ xs cs => quiet (kindOf pf a.op) && b.guard == none && missB a.dst (xs.flatMap Opd.slots) && missB b.dst a.looks && missB a.dst a.looks && (a.dst == none || a.dst != b.dst) &&
      (match kindOf pf a.op with
      | .p => true
      | .l => true
      | _ => match a.op, a.dst, a.guard with
        | .ld sz ag x, some s, none => cs.any fun c => c.1 == s && c.2.1 == sz && c.2.2.1 == ag && (match c.2.2.2, x with | .t p, .t q => p == q | _, _ => false)
        | _, _, _ => false)
  | _ => false

/-- what is read by an operation is not written by one behind it -/
def warB (a b : AInstr) : Bool := missB b.dst a.looks && (a.dst == none || a.dst != b.dst)

def commD (pf : Nat → Bool) (a b : AInstr) : Bool := if isCallc b then callcB pf a b else commA pf a b

theorem set_get (d : Option Nat) (x : Sl) (e : Env) {s : Nat} (h : d ≠ some s) : (setDst d x e).get s = e.get s := by rw [get_set, if_neg h]

theorem quiet_run (hp : PureC pf cl) : ∀ {l : List AInstr} {e : Env} {H : Heap} {e' : Env} {H' : Heap}, (∀ j ∈ l, quiet (kindOf pf j.op) = true) → runS cl l e H = some (e', H') → H' = H ∧ ∀ s, (∀ j ∈ l, j.dst ≠ some s) → e.get s = e'.get s
  | [], e, H, e', H', _, h => by
    simp only [runS, Option.some.injEq, Prod.mk.injEq] at h
    obtain ⟨rfl, rfl⟩ := h
    exact ⟨rfl, fun _ _ => rfl⟩
  | j :: l, e, H, e', H', hq, h => by
    simp only [runS] at h
    cases hs : stp cl j e H with
    | none => rw [hs] at h; cases h
    | some q =>
      obtain ⟨e1, H1⟩ := q
      rw [hs] at h
      obtain ⟨rfl, x, _, _, rfl⟩ := quiet_stp hp (hq j (by simp)) hs
      obtain ⟨rfl, h2⟩ := quiet_run hp (fun m hm => hq m (by simp [hm])) h
      refine ⟨rfl, fun s hd => ?_⟩
      rw [← h2 s fun m hm => hd m (by simp [hm]), set_get _ _ _ (hd j (by simp))]

theorem runS_append : ∀ {l1 l2 : List AInstr} {e : Env} {H : Heap}, runS cl (l1 ++ l2) e H = match runS cl l1 e H with | some (e', H') => runS cl l2 e' H' | none => none
  | [], l2, e, H => rfl
  | i :: l1, l2, e, H => by
    simp only [List.cons_append, runS]
    cases stp cl i e H with
    | none => rfl
    | some p => exact runS_append

theorem ldS_v {e e' : Env} {H : Heap} {sz : Nat} {ag : Bool} {y : AV} : ldS e H sz ag (.v y) = ldS e' H sz ag (.v y) := by cases y <;> rfl

/-- quiet ones, run again behind a call -/
theorem calm_again (hp : PureC pf cl) {b : AInstr} {f : Nat} {xs : List Opd} {cs : List (Nat × Nat × Bool × Opd)} (hb : b.op = .callc f xs cs) {eb : Env} {H H2 : Heap} (hcs : cs.all (sameLd eb H2) = true) :
    ∀ {l : List AInstr} {e e' ea : Env}, (∀ j ∈ l, callcB pf j b = true) → l.Pairwise (fun j k => warB j k = true) → (∀ j ∈ l, ∀ s, j.dst = some s → (e.get s).isLv = false) → (∀ s, b.dst = some s → (e.get s).isLv = false) → Off b.dst e e' →
      runS cl l e H = some (ea, H) → (∀ s, b.dst ≠ some s → ea.get s = eb.get s) → ∃ ea', runS cl l e' H2 = some (ea', H2) ∧ Off b.dst ea ea'
  | [], e, e', ea, _, _, _, _, ho, hr, _ => by
    simp only [runS, Option.some.injEq, Prod.mk.injEq] at hr
    obtain ⟨rfl, _⟩ := hr
    exact ⟨e', rfl, ho⟩
  | j :: l, e, e', ea, hc, hw, hnl, hbl, ho, hr, heb => by
    have hj := hc j (by simp)
    simp only [callcB, hb, Bool.and_eq_true, Bool.or_eq_true, beq_iff_eq, bne_iff_ne, ne_eq] at hj
    obtain ⟨⟨⟨⟨⟨⟨hq, hbg⟩, hm1⟩, hm2⟩, hm3⟩, hd⟩, hk⟩ := hj
    have hdd : ∀ s, j.dst = some s → b.dst ≠ some s := fun s ha hb => by
      rcases hd with hd | hd
      · rw [ha] at hd; cases hd
      · exact hd (ha.trans hb.symm)
    rw [List.pairwise_cons] at hw
    simp only [runS] at hr ⊢
    cases hs : stp cl j e H with
    | none => rw [hs] at hr; cases hr
    | some q =>
      obtain ⟨e1, H1⟩ := q
      rw [hs] at hr
      obtain ⟨rfl, x, hqv, hx, rfl⟩ := quiet_stp hp hq hs
      have hlook : ∀ s ∈ j.looks, b.dst ≠ some s := miss_spec hm2
      have hrest := (quiet_run hp (fun m hm => by
        have := hc m (by simp [hm])
        simp only [callcB, hb, Bool.and_eq_true] at this
        exact this.1.1.1.1.1.1) hr).2
      -- what it looks at, and what it sets, is as it will be at the end
      have hend : ∀ s ∈ j.looks, e.get s = eb.get s := fun s hs => by
        have h1 : (setDst j.dst x e).get s = e.get s := set_get _ _ _ (miss_spec hm3 s hs)
        rw [← h1, hrest s (fun m hm he => by
          have := hw.1 m hm
          simp only [warB, Bool.and_eq_true] at this
          exact miss_spec this.1 s hs he)]
        exact heb s (hlook s hs)
      have hset : ∀ s, j.dst = some s → eb.get s = x := fun s hs => by
        have h1 : (setDst j.dst x e).get s = x := by rw [get_set, if_pos hs]
        rw [← heb s (hdd s hs), ← hrest s (fun m hm he => by
          have := hw.1 m hm
          simp only [warB, Bool.and_eq_true, Bool.or_eq_true, beq_iff_eq, bne_iff_ne, ne_eq] at this
          rcases this.2 with h | h
          · rw [hs] at h; cases h
          · exact h (hs.trans he.symm))]
        exact h1
      have hagain : qv cl j e' H2 = some x := by
        cases hkk : kindOf pf j.op with
        | p => rw [← qv_p (H := H1) (e := e) hkk fun s hs => off_sames ho (hlook s hs)]; exact hqv
        | l => rw [← qv_l (H := H1) hkk ho hlook]; exact hqv
        | _ =>
          rw [hkk] at hk
          simp only at hk
          split at hk
          · rename_i sz ag a s hop hds hg
            obtain ⟨c, hc1, hc2⟩ := List.any_eq_true.1 hk
            obtain ⟨c1, c2, c3, c4⟩ := c
            simp only [Bool.and_eq_true, beq_iff_eq] at hc2
            obtain ⟨⟨⟨rfl, rfl⟩, rfl⟩, hc4⟩ := hc2
            have hsame := List.all_eq_true.1 hcs _ hc1
            have hsl : eb.sl c4 = e.sl a := by
              cases c4 with
              | k _ => cases a <;> cases hc4
              | t q =>
                cases a with
                | k _ => cases hc4
                | t q' =>
                  obtain rfl : q = q' := by simpa using hc4
                  have : e.get q = eb.get q := hend q (by simp [AInstr.looks, hop, AOp.looks, Opd.slots])
                  simp only [Env.sl, this]
            simp only [sameLd, hsl, hset _ hds] at hsame
            have hqv' : (ldS e H1 c2 c3 (e.sl a)).map Sl.v = some x := by
              simp only [qv, hg, wantedS, hop, opv] at hqv
              exact hqv
            simp only [Option.map_eq_some_iff] at hqv'
            obtain ⟨xv, hxv, rfl⟩ := hqv'
            split at hsame
            · rename_i y x' hy hx'
              simp only [Sl.v.injEq] at hx'
              subst hx'
              split at hsame
              · rename_i z hz
                have hzx := AV.same_eq hsame
                subst hzx
                simp only [qv, hg, wantedS, hop, opv]
                have hsl' : e'.sl a = e.sl a := (sl_sames (o := a) fun s hs => off_sames ho (hlook s (by simp [AInstr.looks, hop, AOp.looks, hs]))).symm
                rw [hsl', hy, ldS_v (e' := eb), hz]; rfl
              · cases hsame
            · cases hsame
          · cases hk
      rw [stp_quiet hp hq hagain]
      have hnl' : ∀ s, (∀ m ∈ l, m.dst = some s → ((setDst j.dst x e).get s).isLv = false) := fun s m hm hms => by
        rw [get_set]
        split
        · exact hx
        · exact hnl m (by simp [hm]) s hms
      have hbl' : ∀ s, b.dst = some s → ((setDst j.dst x e).get s).isLv = false := fun s hs => by
        rw [get_set]
        split
        · exact hx
        · exact hbl s hs
      exact calm_again hp hb hcs (fun m hm => hc m (by simp [hm])) hw.2 (fun m hm s hms => hnl' s m hm hms) hbl' (off_set ho (fun s hs he => hdd s hs he) x) hr heb

theorem take_callc (hp : PureC pf cl) {f : Nat} {xs : List Opd} {cs : List (Nat × Nat × Bool × Opd)} (hi : i.op = .callc f xs cs) {l1 l2 : List AInstr} (hl : LvIn L e) (hok : ∀ j ∈ l1 ++ i :: l2, okOne L j = true) (hc : ∀ j ∈ l1, callcB pf j i = true)
    (hig : i.guard = none) (hw : l1.Pairwise (fun j k => warB j k = true)) {ef : Env} {Hf : Heap} (h : runS cl (l1 ++ i :: l2) e H = some (ef, Hf)) :
    ∃ e1 H1 ef', stp cl i.bare e H = some (e1, H1) ∧ runS cl (l1 ++ l2) e1 H1 = some (ef', Hf) ∧ Off none ef ef' := by
  rw [runS_append] at h
  cases h1 : runS cl l1 e H with
  | none => rw [h1] at h; cases h
  | some q =>
    obtain ⟨ea, Ha⟩ := q
    rw [h1] at h
    simp only [runS] at h
    have hquiet : ∀ j ∈ l1, quiet (kindOf pf j.op) = true := fun j hj => by
      have := hc j hj
      simp only [callcB, hi, Bool.and_eq_true] at this
      exact this.1.1.1.1.1.1
    obtain ⟨rfl, hkeep⟩ := quiet_run hp hquiet h1
    cases h2 : stp cl i ea Ha with
    | none => rw [h2] at h; cases h
    | some q =>
      obtain ⟨eb, H2⟩ := q
      rw [h2] at h
      simp only [stp, hig, wantedS, hi, opS] at h2
      split at h2
      · rename_i qx e3 H3 ho
        simp only [Option.some.injEq, Prod.mk.injEq] at h2
        obtain ⟨rfl, rfl⟩ := h2
        split at ho
        · rename_i vs hvs
          split at ho
          · rename_i v H4 hcl
            split at ho
            · rename_i hcs
              simp only [Option.some.injEq, Out.go.injEq] at ho
              obtain ⟨_, rfl, rfl⟩ := ho
              have hargs : allAV e xs = some vs := by
                rw [← hvs]
                refine allAV_sames fun s hs => .inl (hkeep s fun j hj he => ?_)
                have := hc j hj
                simp only [callcB, hi, Bool.and_eq_true] at this
                exact miss_spec this.1.1.1.1.2 s hs he
              have hbare : stp cl i.bare e Ha = some (setDst i.dst (.v v) e, H4) := by
                simp only [AInstr.bare, hi, stp, hig, wantedS, opS, hargs, hcl]
              have hbl : ∀ s, i.dst = some s → (e.get s).isLv = false := okOne_nl hl (hok i (by simp)) (by rw [hi]; rfl)
              have hnl : ∀ j ∈ l1, ∀ s, j.dst = some s → (e.get s).isLv = false := fun j hj => okOne_nl hl (hok j (by simp [hj])) (quiet_setter (hquiet j hj))
              obtain ⟨ea', k1, k2⟩ := calm_again (H := Ha) hp hi hcs hc hw hnl hbl (off_set_self (x := .v v) hbl rfl).symm h1 (fun s hs => (set_get _ _ _ hs).symm)
              have hoff : Off none (setDst i.dst (.v v) ea) ea' := ⟨fun s _ => by
                rw [get_set]
                by_cases hs : i.dst = some s
                · rw [if_pos hs]
                  have hk2 : (setDst i.dst (.v v) e).get s = ea'.get s := by
                    refine (quiet_run hp hquiet k1).2 s fun j hj he => ?_
                    have := hc j hj
                    simp only [callcB, hi, Bool.and_eq_true, Bool.or_eq_true, beq_iff_eq, bne_iff_ne, ne_eq] at this
                    rcases this.1.2 with hh | hh
                    · rw [he] at hh; cases hh
                    · exact hh (he.trans hs.symm)
                  rw [← hk2, get_set, if_pos hs]
                · rw [if_neg hs]; exact k2.eq s hs, fun _ h => by cases h⟩
              obtain ⟨ef', n1, n2⟩ := runS_off (l := l2) hoff (fun m hm => by
                have ho := okOne_L (hok m (by simp [hm]))
                simp only [okLB, Bool.and_eq_true, bne_iff_ne, ne_eq] at ho
                exact ⟨kind_x ho.2, fun _ _ => nofun, fun _ _ => nofun⟩) h
              exact ⟨_, _, ef', hbare, by rw [runS_append, k1]; exact n1, n2⟩
            · cases ho
          · cases ho
        · cases ho
      · cases h2

theorem take_any (hp : PureC pf cl) {l1 l2 : List AInstr} (hl : LvIn L e) (hok : ∀ j ∈ l1 ++ i :: l2, okOne L j = true) (hc : ∀ j ∈ l1, commD pf j i = true)
    (hig : isCallc i = true → i.guard = none ∧ l1.Pairwise (fun j k => warB j k = true)) {ef : Env} {Hf : Heap} (h : runS cl (l1 ++ i :: l2) e H = some (ef, Hf)) :
    ∃ e1 H1 ef', stp cl i.bare e H = some (e1, H1) ∧ runS cl (l1 ++ l2) e1 H1 = some (ef', Hf) ∧ Off none ef ef' := by
  cases hci : isCallc i with
  | false =>
    have hb : i.bare = i := by
      unfold isCallc at hci
      unfold AInstr.bare
      split
      · rename_i hop; rw [hop] at hci; cases hci
      · rfl
    rw [hb]
    exact take_first hp hl hok (fun j hj => by have := hc j hj; simpa [commD, hci] using this) h
  | true =>
    have hop : ∃ f xs cs, i.op = .callc f xs cs := by
      unfold isCallc at hci
      split at hci
      · rename_i f xs cs hop; exact ⟨f, xs, cs, hop⟩
      · cases hci
    obtain ⟨f, xs, cs, hop⟩ := hop
    obtain ⟨g1, g2⟩ := hig hci
    exact take_callc hp hop hl hok (fun j hj => by have := hc j hj; simpa [commD, hci] using this) g1 g2 h
end
end Ey
