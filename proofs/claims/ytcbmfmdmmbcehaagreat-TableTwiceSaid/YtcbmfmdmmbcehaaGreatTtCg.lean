/- The congruence of EyCong once more, for code that freezes values. -/
import Derived.Test.YtcbmfmdmmbcehaaGreatEyB4
namespace Ey.Cg2
open Go (IntKind BinOp)

/-- slots in D hold a here and b there; all others alike -/
structure Cg (D : List Nat) (a b : Int) (e e' : Env) : Prop where
  eq : ∀ s, D.contains s = false → e.get s = e'.get s
  df : ∀ s, D.contains s = true → (e.get s).isLv = false ∧ (e'.get s).isLv = false ∧ (e.get s = e'.get s ∨ ∃ k, e.get s = .v (.int k a) ∧ e'.get s = .v (.int k b))

def offD (D l : List Nat) : Bool := l.all fun s => !D.contains s
def dstOff (D : List Nat) : Option Nat → Bool
  | some d => !D.contains d
  | none => true
def dstIn (D : List Nat) : Option Nat → Bool
  | some d => D.contains d
  | none => false
def cgPlain (D : List Nat) (i : AInstr) : Bool := offD D i.op.looks && dstOff D i.dst && kindOf (fun _ => true) i.op != .x
def cgOp (D M F : List Nat) (i : AInstr) : Bool :=
  (match i.guard with | some (s, _) => !D.contains s | none => true) && match i.op with
  | .mv (.t s) => if D.contains s then dstIn D i.dst else cgPlain D i
  | .cvi .i64 (.t s) => if D.contains s then dstIn D i.dst else cgPlain D i
  | .bin .rem (.t s) (.k (.int _ (.ofNat m))) => if D.contains s then M.contains m && dstOff D i.dst else cgPlain D i
  | .rmc m (.t s) y => if D.contains s then M.contains m && dstOff D i.dst && offD D y.slots else cgPlain D i
  | .call f [.t s] => if D.contains s then F.contains f && dstOff D i.dst else cgPlain D i
  | .callp f _ [.t s] => if D.contains s then F.contains f && dstOff D i.dst else cgPlain D i
  | .frz _ s => !D.contains s
  | _ => cgPlain D i
def cgCode (D M F : List Nat) : ACode → Bool
  | .skip => true
  | .ops l => l.all (cgOp D M F)
  | .dops l => l.all (cgOp D M F)
  | .seq a b => cgCode D M F a && cgCode D M F b
  | .cond c a b => offD D c.slots && cgCode D M F a && cgCode D M F b
  | .block _ a => cgCode D M F a
  | .loop _ a => cgCode D M F a
  | .exit _ => true
  | .ret => true
  | .dfr .. => false

section
variable {Φ : Nat → Option AFn} {D M F : List Nat} {a b : Int}

theorem Cg.sames {e e' : Env} (h : Cg D a b e e') {l : List Nat} (hl : offD D l = true) : ∀ s ∈ l, Sames (e.get s) (e'.get s) := fun s hs => .inl (h.eq s (by
  have := List.all_eq_true.1 hl s hs
  simpa using this))

theorem Cg.set {e e' : Env} (h : Cg D a b e e') {d : Option Nat} (hd : dstOff D d = true) (x : Sl) : Cg D a b (setDst d x e) (setDst d x e') where
  eq := fun s hs => by rw [get_set, get_set]; split; rfl; exact h.eq s hs
  df := fun s hs => by
    have hne : d ≠ some s := fun e => by subst e; simp only [dstOff, hs] at hd; cases hd
    rw [get_set, get_set, if_neg hne, if_neg hne]; exact h.df s hs

theorem Cg.setD {e e' : Env} (h : Cg D a b e e') {d : Option Nat} {x y : Sl} (hx : x.isLv = false) (hy : y.isLv = false) (hxy : (x = y) ∨ ∃ k, x = .v (.int k a) ∧ y = .v (.int k b)) (hd : dstIn D d = true) : Cg D a b (setDst d x e) (setDst d y e') where
  eq := fun s hs => by
    have hne : d ≠ some s := fun e => by subst e; simp only [dstIn, hs] at hd; cases hd
    rw [get_set, get_set, if_neg hne, if_neg hne]; exact h.eq s hs
  df := fun s hs => by
    rw [get_set, get_set]
    split
    · exact ⟨hx, hy, hxy⟩
    · exact h.df s hs

theorem Cg.un {e e' : Env} (h : Cg D a b e e') (d : Option Nat) : Cg D a b (setDst d .un e) (setDst d .un e') := by
  by_cases hd : dstOff D d = true
  · exact h.set hd _
  · refine h.setD rfl rfl (.inl rfl) ?_
    cases d with
    | none => simp [dstOff] at hd
    | some d => simpa [dstOff, dstIn] using hd

/-- the slots of D made as they are there, one by one -/
def mend (e' : Env) : List Nat → Env → Env
  | [], e => e
  | d :: l, e => (d, e'.get d) :: mend e' l e
theorem mend_get (e' : Env) : ∀ (l : List Nat) (e : Env) (s : Nat), (mend e' l e).get s = if l.contains s then e'.get s else e.get s
  | [], e, s => by simp [mend]
  | d :: l, e, s => by
    simp only [mend, get_cons, mend_get e' l e s, List.contains_cons]
    by_cases h : s = d
    · subst h; simp
    · simp [h]

theorem op_chain {cl : Caller} {e' : Env} {op : AOp} (hx : ∀ pf, kindOf pf op ≠ .x) {x : Option Nat} {H : Heap} {q : Ex} : ∀ (l : List Nat) (e : Env), (∀ d ∈ l, (e.get d).isLv = false ∧ (e'.get d).isLv = false ∧ x ≠ some d ∧ d ∉ op.looks) → ∀ {e1 : Env} {H1 : Heap}, opS cl x e H op = some (.go q e1 H1) →
    ∃ e2, opS cl x (mend e' l e) H op = some (.go q e2 H1) ∧ ∀ s, s ∉ l → e1.get s = e2.get s
  | [], e, _, e1, H1, h => ⟨e1, h, fun _ _ => rfl⟩
  | d :: l, e, hl, e1, H1, h => by
    obtain ⟨e2, h2, h3⟩ := op_chain hx l e (fun d' hd' => hl d' (List.mem_cons_of_mem _ hd')) h
    obtain ⟨k1, k2, k3, k4⟩ := hl d (List.mem_cons_self ..)
    have hoff : Off (some d) (mend e' l e) (mend e' (d :: l) e) := by
      refine ⟨fun s hs => ?_, fun s hs => ?_⟩
      · have hne : s ≠ d := fun e => hs (by rw [e])
        simp only [mend, get_cons, if_neg hne]
      · obtain rfl : d = s := by simpa using hs
        refine ⟨?_, by simp only [mend, get_cons, if_true]; exact k2⟩
        rw [mend_get]
        split
        · exact k2
        · exact k1
    obtain ⟨e3, h4, h5⟩ := opS_off hoff hx (fun s hs he => by
      obtain rfl : d = s := by simpa using he
      exact k3 hs) (fun s hs he => by
      obtain rfl : d = s := by simpa using he
      exact k4 hs) h2
    refine ⟨e3, h4, fun s hs => ?_⟩
    simp only [List.mem_cons, not_or] at hs
    rw [h3 s hs.2]
    exact h5.eq s (fun e => hs.1 (by simpa using e.symm))

theorem plain_cg {cl : Caller} {e e' : Env} (h : Cg D a b e e') {i : AInstr} (hi : cgPlain D i = true) {H : Heap} {q : Ex} {e1 : Env} {H1 : Heap} (hop : opS cl i.dst e H i.op = some (.go q e1 H1)) : ∃ e1', opS cl i.dst e' H i.op = some (.go q e1' H1) ∧ Cg D a b e1 e1' := by
  simp only [cgPlain, Bool.and_eq_true, bne_iff_ne, ne_eq] at hi
  obtain ⟨⟨h1, h2⟩, h3⟩ := hi
  have hx := kind_x h3
  have hdst : ∀ s, D.contains s = true → i.dst ≠ some s := fun s hs e => by rw [e] at h2; simp only [dstOff, hs] at h2; cases h2
  have hlook : ∀ s, D.contains s = true → s ∉ i.op.looks := fun s hs hm => by
    have := List.all_eq_true.1 h1 s hm
    rw [hs] at this; cases this
  obtain ⟨e2, k1, k2⟩ := op_chain (e' := e') hx D e (fun d hd => by
    have hd' : D.contains d = true := by simpa using hd
    exact ⟨(h.df d hd').1, (h.df d hd').2.1, hdst d hd', hlook d hd'⟩) hop
  have hsame : Off none (mend e' D e) e' := ⟨fun s _ => by
    rw [mend_get]
    split
    · rfl
    · rename_i hc; exact h.eq s (by simpa using hc), fun s hs => by cases hs⟩
  obtain ⟨e3, k3, k4⟩ := opS_off hsame hx (fun s _ he => by cases he) (fun s _ he => by cases he) k1
  refine ⟨e3, k3, fun s hs => ?_, fun s hs => ?_⟩
  · rw [k2 s (by simpa using hs)]
    exact k4.eq s (by simp)
  · have st1 : stp cl ⟨i.dst, i.op, none⟩ e H = some (e1, H1) := by simp only [stp, wantedS, hop]
    have st3 : stp cl ⟨i.dst, i.op, none⟩ e' H = some (e3, H1) := by simp only [stp, wantedS, k3]
    have p1 := stp_sames (i := ⟨i.dst, i.op, none⟩) hx st1 (s := s) (hdst s hs)
    have p3 := stp_sames (i := ⟨i.dst, i.op, none⟩) hx st3 (s := s) (hdst s hs)
    obtain ⟨d1, d2, d3⟩ := h.df s hs
    have q1 : e1.get s = e.get s := by
      rcases p1 with p | ⟨p, _⟩
      · exact p.symm
      · rw [d1] at p; cases p
    have q3 : e3.get s = e'.get s := by
      rcases p3 with p | ⟨p, _⟩
      · exact p.symm
      · rw [d2] at p; cases p
    rw [q1, q3]
    exact ⟨d1, d2, d3⟩

/-- what is asked of the two numbers -/
structure CgOK (Φ : Nat → Option AFn) (M F : List Nat) (a b : Int) : Prop where
  wr : IntKind.wrap .i64 a = a ∧ IntKind.wrap .i64 b = b
  rem : ∀ m ∈ M, m ≠ 0 ∧ a.tmod m = b.tmod m
  call : ∀ f ∈ F, ∀ k H v H', evC Φ f [.int k a] H = some (.ret v H') → evC Φ f [.int k b] H = some (.ret v H')

theorem av_of {e : Env} {s : Nat} {y : AV} (h : e.get s = .v y) : e.av (.t s) = some y := by simp only [Env.av, Env.sl, h]
theorem sl_of {e : Env} {s : Nat} {y : AV} (h : e.get s = .v y) : e.sl (.t s) = .v y := by simp only [Env.sl, h]
theorem av_same {e e' : Env} {s : Nat} (h : e.get s = e'.get s) : e.av (.t s) = e'.av (.t s) := by simp only [Env.av, Env.sl, h]
theorem sl_same {e e' : Env} {s : Nat} (h : e.get s = e'.get s) : e.sl (.t s) = e'.sl (.t s) := by simp only [Env.sl, h]

theorem op_cg (hok : CgOK Φ M F a b) {e e' : Env} (h : Cg D a b e e') {i : AInstr} (hi : cgOp D M F i = true) {H : Heap} {q : Ex} {e1 : Env} {H1 : Heap} (hs : opS (evC Φ) i.dst e H i.op = some (.go q e1 H1)) :
    ∃ e1', opS (evC Φ) i.dst e' H i.op = some (.go q e1' H1) ∧ Cg D a b e1 e1' := by
  obtain ⟨d, op, g⟩ := i
  simp only [cgOp, Bool.and_eq_true] at hi
  obtain ⟨_, hi⟩ := hi
  split at hi
  · rename_i s
    split at hi
    · rename_i hD
      obtain ⟨d1, d2, d3⟩ := h.df s hD
      simp only [opS, opv] at hs ⊢
      rcases d3 with d3 | ⟨k, d3, d4⟩
      · rw [← sl_same d3]
        split at hs
        · rename_i x hx
          simp only [Option.some.injEq, Out.go.injEq] at hs
          obtain ⟨rfl, rfl, rfl⟩ := hs
          refine ⟨_, rfl, h.setD ?_ ?_ (.inl rfl) hi⟩ <;> (split at hx <;> first | (simp only [Option.some.injEq] at hx; subst hx; rfl) | cases hx)
        · cases hs
      · rw [sl_of d3] at hs
        rw [sl_of d4]
        simp only [Option.some.injEq, Out.go.injEq] at hs ⊢
        obtain ⟨rfl, rfl, rfl⟩ := hs
        exact ⟨_, ⟨rfl, rfl, rfl⟩, h.setD rfl rfl (.inr ⟨k, rfl, rfl⟩) hi⟩
    · exact plain_cg h hi hs
  · rename_i s
    split at hi
    · rename_i hD
      obtain ⟨d1, d2, d3⟩ := h.df s hD
      simp only [opS, opv] at hs ⊢
      rcases d3 with d3 | ⟨k, d3, d4⟩
      · rw [← av_same d3]
        split at hs
        · rename_i x hx
          simp only [Option.some.injEq, Out.go.injEq] at hs
          obtain ⟨rfl, rfl, rfl⟩ := hs
          refine ⟨_, rfl, h.setD ?_ ?_ (.inl rfl) hi⟩ <;> (split at hx <;> first | (simp only [Option.some.injEq] at hx; subst hx; rfl) | cases hx)
        · cases hs
      · rw [av_of d3] at hs
        rw [av_of d4]
        simp only [Option.some.injEq, Out.go.injEq] at hs ⊢
        obtain ⟨rfl, rfl, rfl⟩ := hs
        exact ⟨_, ⟨rfl, rfl, rfl⟩, h.setD rfl rfl (.inr ⟨.i64, by rw [hok.wr.1], by rw [hok.wr.2]⟩) hi⟩
    · exact plain_cg h hi hs
  · rename_i s k m
    split at hi
    · rename_i hD
      simp only [Bool.and_eq_true] at hi
      obtain ⟨d1, d2, d3⟩ := h.df s hD
      obtain ⟨hm0, hm⟩ := hok.rem m (by simpa using hi.1)
      have hne : (Int.ofNat m) ≠ 0 := by simpa using hm0
      have hkey : opv e H (.bin .rem (.t s) (.k (.int k (.ofNat m)))) = opv e' H (.bin .rem (.t s) (.k (.int k (.ofNat m)))) := by
        simp only [opv]
        rcases d3 with d3 | ⟨j, d3, d4⟩
        · rw [av_same d3]; rfl
        · rw [av_of d3, av_of d4]
          show (binAV .rem (.int j a) (.int k (.ofNat m))).map _ = (binAV .rem (.int j b) (.int k (.ofNat m))).map _
          simp only [binAV, arI, if_neg hne]
          have : a.tmod (Int.ofNat m) = b.tmod (Int.ofNat m) := hm
          rw [this]
      simp only [opS] at hs ⊢
      rw [← hkey]
      split at hs
      · rename_i x hx
        simp only [Option.some.injEq, Out.go.injEq] at hs
        obtain ⟨rfl, rfl, rfl⟩ := hs
        exact ⟨_, rfl, h.set hi.2 _⟩
      · cases hs
    · exact plain_cg h hi hs
  · rename_i m s y
    split at hi
    · rename_i hD
      simp only [Bool.and_eq_true] at hi
      obtain ⟨d1, d2, d3⟩ := h.df s hD
      obtain ⟨hm0, hm⟩ := hok.rem m (by simpa using hi.1.1)
      have hy : e.av y = e'.av y := av_sames (h.sames hi.2)
      have hne : ((m : Nat) : Int) ≠ 0 := by simpa using hm0
      have hkey : opv e H (.rmc m (.t s) y) = opv e' H (.rmc m (.t s) y) := by
        simp only [opv, hy]
        rcases d3 with d3 | ⟨j, d3, d4⟩
        · rw [av_same d3]
        · rw [av_of d3, av_of d4]
          cases hv : e'.av y with
          | none => rfl
          | some z =>
            cases z <;> try rfl
            rename_i kk n
            simp only
            by_cases hn : n = m
            · subst hn
              simp only [if_true, binAV, arI, if_neg hne, hm]
            · simp only [if_neg hn]
      simp only [opS] at hs ⊢
      rw [← hkey]
      split at hs
      · rename_i x hx
        simp only [Option.some.injEq, Out.go.injEq] at hs
        obtain ⟨rfl, rfl, rfl⟩ := hs
        exact ⟨_, rfl, h.set hi.1.2 _⟩
      · cases hs
    · exact plain_cg h hi hs
  · rename_i f s
    split at hi
    · rename_i hD
      simp only [Bool.and_eq_true] at hi
      obtain ⟨d1, d2, d3⟩ := h.df s hD
      simp only [opS, allAV] at hs ⊢
      cases h1 : e.av (.t s) with
      | none => rw [h1] at hs; cases hs
      | some v =>
        rw [h1] at hs
        simp only [Option.map_some] at hs
        split at hs
        · rename_i r H2 hr
          simp only [Option.some.injEq, Out.go.injEq] at hs
          obtain ⟨rfl, rfl, rfl⟩ := hs
          have h2 : ∃ v', e'.av (.t s) = some v' ∧ evC Φ f [v'] H = some (.ret r H2) := by
            rcases d3 with d3 | ⟨j, d3, d4⟩
            · exact ⟨v, by rw [← av_same d3]; exact h1, hr⟩
            · rw [av_of d3] at h1
              simp only [Option.some.injEq] at h1
              subst h1
              exact ⟨_, av_of d4, hok.call f (by simpa using hi.1) j H _ _ hr⟩
          obtain ⟨v', h2, h3⟩ := h2
          rw [h2]
          simp only [Option.map_some, h3]
          exact ⟨_, rfl, h.set hi.2 _⟩
        · cases hs
        · cases hs
    · exact plain_cg h hi hs
  · rename_i f fz s
    split at hi
    · rename_i hD
      simp only [Bool.and_eq_true] at hi
      obtain ⟨d1, d2, d3⟩ := h.df s hD
      simp only [opS, allAV] at hs ⊢
      cases h1 : e.av (.t s) with
      | none => rw [h1] at hs; cases hs
      | some v =>
        rw [h1] at hs
        simp only [Option.map_some] at hs
        split at hs
        · rename_i r hr
          simp only [Option.some.injEq, Out.go.injEq] at hs
          obtain ⟨rfl, rfl, rfl⟩ := hs
          have h2 : ∃ v', e'.av (.t s) = some v' ∧ clpS (evC Φ) f fz [v'] = some r := by
            rcases d3 with d3 | ⟨j, d3, d4⟩
            · exact ⟨v, by rw [← av_same d3]; exact h1, hr⟩
            · rw [av_of d3] at h1
              simp only [Option.some.injEq] at h1
              subst h1
              refine ⟨_, av_of d4, ?_⟩
              unfold clpS at hr ⊢
              rw [if_pos (by rfl)] at hr
              rw [if_pos (by rfl)]
              split at hr
              · rename_i y H2 hy
                rw [hok.call f (by simpa using hi.1) j heap0 _ _ hy]
                exact hr
              · cases hr
          obtain ⟨v', h2, h3⟩ := h2
          rw [h2]
          simp only [Option.map_some, h3]
          exact ⟨_, rfl, h.set hi.2 _⟩
        · cases hs
    · exact plain_cg h hi hs
  · rename_i f s
    have hs' : D.contains s = false := by simpa using hi
    have he := h.eq s hs'
    simp only [opS] at hs ⊢
    rw [← he]
    cases hx : e.get s with
    | v x =>
      simp only [hx] at hs ⊢
      cases hy : fzV f H x with
      | none => simp only [hy] at hs; cases hs
      | some p =>
        simp only [hy, Option.some.injEq, Out.go.injEq] at hs ⊢
        obtain ⟨rfl, rfl, rfl⟩ := hs
        exact ⟨_, ⟨rfl, rfl, rfl⟩, h.set (d := some s) hi _⟩
    | lv cs =>
      simp only [hx] at hs ⊢
      cases hy : fzV f H (.agg cs) with
      | none => simp only [hy] at hs; cases hs
      | some p =>
        obtain ⟨y, H2⟩ := p
        simp only [hy] at hs ⊢
        cases y with
        | agg ds =>
          simp only [Option.some.injEq, Out.go.injEq] at hs ⊢
          obtain ⟨rfl, rfl, rfl⟩ := hs
          exact ⟨_, ⟨rfl, rfl, rfl⟩, h.set (d := some s) hi _⟩
        | _ => cases hs
    | _ => simp only [hx] at hs; cases hs
  · exact plain_cg h hi hs

theorem ops_cg (hok : CgOK Φ M F a b) : ∀ {l : List AInstr} {e e' : Env}, Cg D a b e e' → l.all (cgOp D M F) = true → ∀ {H : Heap} {q : Ex} {e1 : Env} {H1 : Heap}, opsS (evC Φ) l e H = some (.go q e1 H1) → ∃ e1', opsS (evC Φ) l e' H = some (.go q e1' H1) ∧ Cg D a b e1 e1'
  | [], e, e', h, _, H, q, e1, H1, hs => by
    simp only [opsS, Option.some.injEq, Out.go.injEq] at hs
    obtain ⟨rfl, rfl, rfl⟩ := hs
    exact ⟨e', rfl, h⟩
  | i :: l, e, e', h, hl, H, q, e1, H1, hs => by
    simp only [List.all_cons, Bool.and_eq_true] at hl
    have hw : wantedS e i.guard = wantedS e' i.guard := by
      have hg := hl.1
      simp only [cgOp, Bool.and_eq_true] at hg
      have hg := hg.1
      cases hgd : i.guard with
      | none => rfl
      | some p =>
        obtain ⟨s, w⟩ := p
        rw [hgd] at hg
        have := h.eq s (by simpa using hg)
        simp only [wantedS, this]
    simp only [opsS] at hs ⊢
    rw [← hw]
    cases hwt : wantedS e i.guard with
    | none => rw [hwt] at hs; cases hs
    | some w =>
      rw [hwt] at hs
      cases w with
      | false => exact ops_cg hok (h.un i.dst) hl.2 hs
      | true =>
        simp only at hs ⊢
        cases ho : opS (evC Φ) i.dst e H i.op with
        | none => rw [ho] at hs; cases hs
        | some o =>
          rw [ho] at hs
          cases o with
          | pan v e2 H2 => cases hs
          | go q2 e2 H2 =>
            obtain ⟨e2', k1, k2⟩ := op_cg hok h hl.1 ho
            rw [k1]
            exact ops_cg hok k2 hl.2 hs

theorem Cg.keep {e e' : Env} (h : Cg D a b e e') (l : List Nat) : Cg D a b (keepS l e) (keepS l e') := by
  have key : ∀ (e : Env) (s : Nat), (keepS l e).get s = if s ∈ l then (match e.get s with | .lp _ _ => .no | x => x) else .no := by
    intro e s
    induction l with
    | nil => simp [keepS, Env.get]
    | cons x l ih =>
      simp only [keepS, List.map_cons, Env.get] at ih ⊢
      by_cases hx : s = x
      · subst hx; simp only [if_true, List.mem_cons, true_or]; cases e.get s <;> rfl
      · simp only [hx, if_false, List.mem_cons, false_or]; exact ih
  refine ⟨fun s hs => by rw [key, key, h.eq s hs], fun s hs => ?_⟩
  rw [key, key]
  split
  · obtain ⟨d1, d2, d3⟩ := h.df s hs
    rcases d3 with d3 | ⟨k, d3, d4⟩
    · rw [d3]
      refine ⟨?_, ?_, .inl rfl⟩ <;> (rw [d3] at d1; revert d2; cases e'.get s <;> simp [Sl.isLv])
    · rw [d3, d4]
      exact ⟨rfl, rfl, .inr ⟨k, rfl, rfl⟩⟩
  · exact ⟨rfl, rfl, .inl rfl⟩

theorem loop_cg {N : Nat} {c : ACode} {keep : List Nat} (ih : ∀ {e e' : Env}, Cg D a b e e' → ∀ {H : Heap} {q : Ex} {e1 : Env} {H1 : Heap}, exec N (callN Φ N) c e H = some (.go q e1 H1) → ∃ e1', evX Φ c e' H = some (.go q e1' H1) ∧ Cg D a b e1 e1') :
    ∀ (n : Nat) {e e' : Env}, Cg D a b e (keepS keep e') → ∀ {H : Heap} {q : Ex} {e1 : Env} {H1 : Heap}, loopS (exec N (callN Φ N) c) keep n e H = some (.go q e1 H1) → ∃ e1', evX Φ (.loop keep c) e' H = some (.go q e1' H1) ∧ Cg D a b e1 e1'
  | 0, _, _, _, _, _, _, _, hs => by cases hs
  | n + 1, e, e', h, H, q, e1, H1, hs => by
    simp only [loopS] at hs
    rw [evX_loop]
    cases hb : exec N (callN Φ N) c e H with
    | none => rw [hb] at hs; cases hs
    | some o =>
      rw [hb] at hs
      rcases o with ⟨x, e2, H2⟩ | ⟨v, e2, H2⟩
      · obtain ⟨e2', k1, k2⟩ := ih h hb
        rw [k1]
        cases x with
        | nrm => exact loop_cg ih n (k2.keep keep) hs
        | exit id =>
          simp only [Option.some.injEq, Out.go.injEq] at hs
          obtain ⟨rfl, rfl, rfl⟩ := hs
          exact ⟨e2', rfl, k2⟩
        | ret =>
          simp only [Option.some.injEq, Out.go.injEq] at hs
          obtain ⟨rfl, rfl, rfl⟩ := hs
          exact ⟨e2', rfl, k2⟩
      · cases hs

theorem exec_cg (hok : CgOK Φ M F a b) {N : Nat} : ∀ {c : ACode}, cgCode D M F c = true → ∀ {e e' : Env}, Cg D a b e e' → ∀ {H : Heap} {q : Ex} {e1 : Env} {H1 : Heap}, exec N (callN Φ N) c e H = some (.go q e1 H1) → ∃ e1', evX Φ c e' H = some (.go q e1' H1) ∧ Cg D a b e1 e1'
  | .skip, _, e, e', h, H, q, e1, H1, hs => by
    simp only [exec, Option.some.injEq, Out.go.injEq] at hs
    obtain ⟨rfl, rfl, rfl⟩ := hs
    exact ⟨e', evX_skip e' H, h⟩
  | .ops l, hc, e, e', h, H, q, e1, H1, hs => by
    rw [evX_ops]
    exact ops_cg hok h hc (opsS_mono (callN_le_evC Φ N) hs)
  | .dops l, hc, e, e', h, H, q, e1, H1, hs => by
    rw [evX_dops]
    simp only [exec] at hs
    split at hs
    · rename_i x e2 H2 ho
      simp only [Option.some.injEq, Out.go.injEq] at hs
      obtain ⟨rfl, rfl, rfl⟩ := hs
      obtain ⟨e1', k1, k2⟩ := ops_cg hok h hc (opsS_mono (callN_le_evC Φ N) ho)
      exact ⟨e1', by rw [k1], k2⟩
    · cases hs
  | .seq x y, hc, e, e', h, H, q, e1, H1, hs => by
    simp only [cgCode, Bool.and_eq_true] at hc
    simp only [exec] at hs
    rw [evX_seq]
    cases hx : exec N (callN Φ N) x e H with
    | none => rw [hx] at hs; cases hs
    | some o =>
      rw [hx] at hs
      rcases o with ⟨z, e2, H2⟩ | ⟨v, e2, H2⟩
      · obtain ⟨e2', k1, k2⟩ := exec_cg hok hc.1 h hx
        rw [k1]
        cases z with
        | nrm => exact exec_cg hok hc.2 k2 hs
        | exit id =>
          simp only [Option.some.injEq, Out.go.injEq] at hs
          obtain ⟨rfl, rfl, rfl⟩ := hs
          exact ⟨e2', rfl, k2⟩
        | ret =>
          simp only [Option.some.injEq, Out.go.injEq] at hs
          obtain ⟨rfl, rfl, rfl⟩ := hs
          exact ⟨e2', rfl, k2⟩
      · cases hs
  | .cond c x y, hc, e, e', h, H, q, e1, H1, hs => by
    simp only [cgCode, Bool.and_eq_true] at hc
    simp only [exec] at hs
    rw [evX_cond, ← av_sames (o := c) (h.sames hc.1.1)]
    split at hs
    · rename_i hv; (try rw [hv]); exact exec_cg hok hc.1.2 h hs
    · rename_i hv; (try rw [hv]); exact exec_cg hok hc.2 h hs
    · cases hs
  | .block id x, hc, e, e', h, H, q, e1, H1, hs => by
    simp only [cgCode] at hc
    simp only [exec] at hs
    rw [evX_block]
    cases hx : exec N (callN Φ N) x e H with
    | none => rw [hx] at hs; cases hs
    | some o =>
      rw [hx] at hs
      rcases o with ⟨z, e2, H2⟩ | ⟨v, e2, H2⟩
      · obtain ⟨e2', k1, k2⟩ := exec_cg hok hc h hx
        rw [k1]
        cases z with
        | nrm =>
          simp only [Option.some.injEq, Out.go.injEq] at hs
          obtain ⟨rfl, rfl, rfl⟩ := hs
          exact ⟨e2', rfl, k2⟩
        | exit j =>
          simp only at hs ⊢
          split at hs <;> (simp only [Option.some.injEq, Out.go.injEq] at hs; obtain ⟨rfl, rfl, rfl⟩ := hs)
          · rename_i hj; rw [if_pos hj]; exact ⟨e2', rfl, k2⟩
          · rename_i hj; rw [if_neg hj]; exact ⟨e2', rfl, k2⟩
        | ret =>
          simp only [Option.some.injEq, Out.go.injEq] at hs
          obtain ⟨rfl, rfl, rfl⟩ := hs
          exact ⟨e2', rfl, k2⟩
      · cases hs
  | .loop keep x, hc, e, e', h, H, q, e1, H1, hs => by
    simp only [cgCode] at hc
    simp only [exec] at hs
    exact loop_cg (fun {_ _} h' {_ _ _ _} hs' => exec_cg hok hc h' hs') N (h.keep keep) hs
  | .exit id, _, e, e', h, H, q, e1, H1, hs => by
    simp only [exec, Option.some.injEq, Out.go.injEq] at hs
    obtain ⟨rfl, rfl, rfl⟩ := hs
    exact ⟨e', evX_exit id e' H, h⟩
  | .ret, _, e, e', h, H, q, e1, H1, hs => by
    simp only [exec, Option.some.injEq, Out.go.injEq] at hs
    obtain ⟨rfl, rfl, rfl⟩ := hs
    exact ⟨e', evX_ret e' H, h⟩
  | .dfr .., hc, _, _, _, _, _, _, _, _ => by cases hc

/-- results that do not look at the slots -/
def cgRes (D : List Nat) : List ARes → Bool
  | [.tmp t] => !D.contains t
  | [.cell t _ _] => !D.contains t
  | _ => false
theorem ldS_cg {e e' : Env} (h : Cg D a b e e') {t sz : Nat} {ag : Bool} (ht : D.contains t = false) (H : Heap) : ldS e H sz ag (e.sl (.t t)) = ldS e' H sz ag (e'.sl (.t t)) := by
  have h1 := h.eq t ht
  have key : ∀ s off, ldS e H sz ag (.lp s off) = ldS e' H sz ag (.lp s off) := fun s off => by
    simp only [ldS]
    cases hs : D.contains s with
    | false => rw [h.eq s hs]
    | true =>
      obtain ⟨d1, d2, _⟩ := h.df s hs
      cases he : e.get s <;> cases he' : e'.get s <;> first | rfl | (exfalso; rw [he] at d1; simp [Sl.isLv] at d1; done) | (exfalso; rw [he'] at d2; simp [Sl.isLv] at d2; done)
  have h2 : e.sl (.t t) = e'.sl (.t t) := by simp only [Env.sl, h1]
  rw [← h2]
  cases hg : e.sl (.t t) with
  | lp s off => exact key s off
  | v x => cases x <;> rfl
  | _ => rfl
theorem res_cg {e e' : Env} (h : Cg D a b e e') {l : List ARes} (hl : cgRes D l = true) (H : Heap) : resOf e H l = resOf e' H l := by
  unfold cgRes at hl
  split at hl
  · rename_i t
    have := h.eq t (by simpa using hl)
    simp only [resOf, resS, this]
  · rename_i t sz ag
    simp only [resOf, resS]
    exact ldS_cg h (by simpa using hl) H
  · cases hl

theorem initEnv_at : ∀ (vs : List AV) (i s : Nat), (initEnv i vs).get s = if i ≤ s then (match vs[s - i]? with | some x => .v x | none => .no) else .no
  | [], i, s => by simp [initEnv, Env.get]
  | v :: r, i, s => by
    have ih := initEnv_at r (i + 1) s
    simp only [initEnv, Env.get, ih]
    by_cases h : s = i
    · subst h; simp
    · rw [if_neg h]
      by_cases hle : i + 1 ≤ s
      · rw [if_pos hle, if_pos (by omega)]
        have : s - i = (s - (i + 1)) + 1 := by omega
        rw [this, List.getElem?_cons_succ]
      · rw [if_neg hle, if_neg (by omega)]

/-- a call with one number, and with another -/
theorem evC_cg (hok : CgOK Φ M F a b) {f : Nat} {af : AFn} (hf : Φ f = some af) (hc : cgCode D M F af.code = true) (hr : cgRes D af.results = true) {k : IntKind} {vs : List AV} {p : Nat} (hp : vs[p]? = some (.int k a)) (hDp : D.contains p = true) (hD : ∀ s, D.contains s = true → s = p ∨ vs.length ≤ s) {H : Heap} {v : AV} {H' : Heap}
    (h : evC Φ f vs H = some (.ret v H')) : evC Φ f (vs.set p (.int k b)) H = some (.ret v H') := by
  by_cases hl : vs.length = af.params
  · rw [evC_eq hf hl] at h
    rw [evC_eq hf (by simpa using hl)]
    cases hx : evX Φ af.code (initEnv 0 vs) (bodyH af H) with
    | none => rw [hx] at h; cases h
    | some o =>
      obtain ⟨n, hn⟩ := evX_iff.1 hx
      rw [hx] at h
      rcases o with ⟨q, e1, H1⟩ | ⟨w, e1, H1⟩
      · have hcg : Cg D a b (initEnv 0 vs) (initEnv 0 (vs.set p (.int k b))) := by
          have hpl := (List.getElem?_eq_some_iff.1 hp).1
          refine ⟨fun s hs => ?_, fun s hs => ?_⟩
          · rw [initEnv_at, initEnv_at]
            simp only [Nat.zero_le, if_true, Nat.sub_zero]
            have hne : p ≠ s := fun e => by rw [← e, hDp] at hs; cases hs
            rw [List.getElem?_set_ne hne]
          · rw [initEnv_at, initEnv_at]
            simp only [Nat.zero_le, if_true, Nat.sub_zero]
            rcases hD s hs with rfl | hge
            · rw [hp, List.getElem?_set_self hpl]
              exact ⟨rfl, rfl, .inr ⟨k, rfl, rfl⟩⟩
            · rw [List.getElem?_eq_none hge, List.getElem?_eq_none (by simpa using hge)]
              exact ⟨rfl, rfl, .inl rfl⟩
        obtain ⟨e1', k1, k2⟩ := exec_cg hok hc hcg hn
        rw [k1]
        cases q with
        | exit id => cases h
        | nrm => simp only [finS] at h ⊢; rw [← res_cg k2 hr]; exact h
        | ret => simp only [finS] at h ⊢; rw [← res_cg k2 hr]; exact h
      · simp only [finS] at h
        repeat' (split at h)
        all_goals cases h
  · exfalso
    obtain ⟨n, hn⟩ := evC_iff.1 h
    cases n with
    | zero => cases hn
    | succ n =>
      simp only [callN, hf, if_neg hl] at hn
      cases hn
end
end Ey.Cg2
