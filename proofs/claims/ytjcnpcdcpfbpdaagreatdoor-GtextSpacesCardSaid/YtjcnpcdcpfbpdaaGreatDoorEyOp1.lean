/- Loads, addresses, parts: what the model does, out of what ours does. -/
import Derived.Test.YtjcnpcdcpfbpdaaGreatDoorEyChk
namespace Ey
open Go Go.RowKit

theorem gather {p : Nat → Value → Prop} : ∀ (n : Nat), (∀ j, j < n → ∃ v, p j v) → ∃ vs : List Value, vs.length = n ∧ ∀ j v, vs[j]? = some v → p j v
  | 0, _ => ⟨[], rfl, fun j v h => by simp at h⟩
  | n + 1, h => by
    obtain ⟨vs, hl, hv⟩ := gather n (fun j hj => h j (by omega))
    obtain ⟨v, hp⟩ := h n (by omega)
    refine ⟨vs ++ [v], by simp [hl], fun j u hu => ?_⟩
    by_cases hj : j < vs.length
    · rw [List.getElem?_append_left hj] at hu; exact hv j u hu
    · rw [List.getElem?_append_right (by omega)] at hu
      have : j - vs.length = 0 := by
        have := (List.getElem?_eq_some_iff.1 hu).1
        simp at this; omega
      rw [this] at hu
      simp at hu
      obtain rfl : j = n := by omega
      exact hu ▸ hp

section
variable {C : Cx} {g : Gh} {own : Own} {B : Nat} {H : Heap} {w : World} {env : Env} {a : Act} {n : Nat} {L : List Nat}

/-- loading a part of cells that are known to lie somewhere -/
theorem load_part {t : TypeId} {sz off : Nat} {ag : Bool} (ht : TyIs C.P t sz ag) {cs : List AV} {x : AV} (hp : part sz ag cs off = some x) (h1 : ∀ c ∈ cs, c.one = true)
    {b o : Nat} (hc : ∀ (j : Nat) (y : AV), cs[off + j]? = some y → ∃ v, w.cell? ⟨b, o + j, none⟩ = some v ∧ VR C g y v) :
    ∃ v, (loadVar t ⟨b, o, none⟩).run C.P w = .ok v w ∧ VR C g x v := by
  have hle := part_len hp ht.one
  obtain ⟨vs, hl, hv⟩ := gather (p := fun j v => w.cell? ⟨b, o + j, none⟩ = some v ∧ ∀ y, cs[off + j]? = some y → VR C g y v) sz (fun j hj => by
    have hlt : off + j < cs.length := by omega
    obtain ⟨v, hv1, hv2⟩ := hc j _ (List.getElem?_eq_getElem hlt)
    exact ⟨v, hv1, fun y hy => by rw [List.getElem?_eq_getElem hlt] at hy; simp at hy; exact hy ▸ hv2⟩)
  exact ⟨_, run_loadVar_at ht w b o vs hl (fun j v hj => (hv j v hj).1), (part_rel hp hl ht.one h1 (fun j y v hy hj => (hv j v hj).2 y hy)).1⟩

theorem ld_sim (hS : St C g own B H w) (hF : Fr C g own w env a.tmps n L) {t : TypeId} {sz : Nat} {ag : Bool} (ht : TyIs C.P t sz ag) {x : Operand} {y : Opd} (hx : opdOK C x y = true)
    {z : AV} (hz : ldS env H sz ag (env.sl y) = some z) : ∃ v, (Instr.loadAt t (a.eval x)).run C.P w = .ok v w ∧ VR C g z v := by
  have hs := sl_rel hF hx rfl (s := env.sl y) (by intro h; rw [h] at hz; simp [ldS] at hz)
  have go : ∀ b o, a.eval x = .pointer (some ⟨b, o, none⟩) → (Instr.loadAt t (a.eval x)).run C.P w = (loadVar t ⟨b, o, none⟩).run C.P w := by
    intro b o h; rw [h]; simp [Instr.loadAt, Instr.sureAddr]
  generalize a.eval x = vx at hs go ⊢
  unfold ldS at hz
  split at hz
  · rename_i s off hq
    rw [hq] at hs
    obtain ⟨cs, b, o, h1, h2, h3⟩ := hs
    simp only [h1] at hz
    rw [go _ _ h3]
    have h4 := hF.slots s
    simp only [SlotOK, h1] at h4
    obtain ⟨b', o', h5, h6, h7⟩ := h4
    rw [h5] at h2; simp at h2; obtain ⟨rfl, rfl⟩ := h2
    exact load_part ht hz h6 (fun j y hy => by
      obtain ⟨_, v, hv1, _, hv2⟩ := h7 _ _ hy
      exact ⟨v, by rw [Nat.add_assoc]; exact hv1, hv2⟩)
  · rename_i x' hq
    rw [hq] at hs
    split at hz
    · rename_i hl
      cases hs with
      | imm _ b o f h1 hne hG hv =>
        rw [go b o rfl]
        exact load_part ht hz h1 (fun j y hy => by
          have hj : j < x'.cells.length := by
            have := (List.getElem?_eq_some_iff.1 hy).1
            omega
          exact ⟨f j, (hS.imm _ _ _ (hG j hj)).2, hv j y (by simpa using hy)⟩)
    · simp at hz
  · rename_i id off hq
    rw [hq] at hs
    split at hz
    · rename_i cs hg
      cases hs with
      | ptr _ _ b o hb =>
        rw [go b (o + off) rfl]
        obtain ⟨b', o', h1, h2, h3⟩ := hS.obj _ _ hg
        rw [hb] at h1; simp at h1; obtain ⟨rfl, rfl⟩ := h1
        exact load_part ht hz h2 (fun j y hy => by
          obtain ⟨_, v, hv1, _, hv2⟩ := h3 _ _ hy
          exact ⟨v, by rw [Nat.add_assoc]; exact hv1, hv2⟩)
    · simp at hz
  · rename_i id ver i off hq
    rw [hq] at hs
    split at hz
    · rename_i nl sz' xs hg
      split at hz
      · rename_i hver
        split at hz
        · rename_i x' hx'
          cases hs with
          | ap _ _ _ _ b o cap sz'' hb =>
            rw [go b _ rfl]
            obtain ⟨⟨ph, h1, h2, h3⟩, _⟩ := hS.arr _ _ _ _ hg
            subst hver
            rw [hb] at h1; simp at h1; subst h1
            simp only at h2 h3
            subst h2
            obtain ⟨_, _, h4, _, h6⟩ := h3
            exact load_part ht hz (h4 i x' hx').2 (fun j y hy => by
              obtain ⟨v, hv1, hv2⟩ := h6 i x' _ y hx' hy
              exact ⟨v, by rw [Nat.add_assoc]; exact hv1, hv2⟩)
        · simp at hz
      · simp at hz
    · simp at hz
  · simp at hz

theorem part_cells {sz off : Nat} {ag : Bool} {cs : List AV} {x : AV} (hp : part sz ag cs off = some x) (h1 : ag = false → sz = 1) (ho : ∀ c ∈ cs, c.one = true) :
    x.cells.length = sz ∧ (∀ c ∈ x.cells, c.one = true) ∧ ∀ (j : Nat) (y : AV), x.cells[j]? = some y → cs[off + j]? = some y := by
  have hle := part_len hp h1
  unfold part at hp
  cases ag with
  | true =>
    simp only [if_true, if_pos hle, Option.some.injEq] at hp
    subst hp
    refine ⟨by simp [AV.cells]; omega, fun c hc => ho c (List.mem_of_mem_drop (List.mem_of_mem_take hc)), fun j y hy => ?_⟩
    have hj : j < sz := by
      have := (List.getElem?_eq_some_iff.1 hy).1
      simp [AV.cells] at this; omega
    simp only [AV.cells] at hy
    rwa [List.getElem?_take, if_pos hj, List.getElem?_drop] at hy
  | false =>
    simp only [Bool.false_eq_true, if_false] at hp
    have hone := ho x (List.mem_of_getElem? hp)
    have hs := h1 rfl
    subst hs
    rw [AV.one_cells hone]
    refine ⟨rfl, by simpa using hone, fun j y hy => ?_⟩
    cases j with
    | zero => simp at hy; subst hy; simpa using hp
    | succ j => simp at hy

/-- an address moved on -/
theorem addr_sim {off sz : Nat} {ag : Bool} (h0 : 0 < sz) (h1 : ag = false → sz = 1) {s s' : Sl} (h : addrS off sz ag s = some s') {v : Value} (hs : SlR C g env (tmOf a.tmps) s v) :
    ∃ b o, v = .pointer (some ⟨b, o, none⟩) ∧ SlR C g env (tmOf a.tmps) s' (.pointer (some ⟨b, o + off, none⟩)) := by
  unfold addrS at h
  split at h
  · rename_i s o
    simp at h; subst h
    obtain ⟨cs, b, o', h2, h3, rfl⟩ := hs
    exact ⟨b, o' + o, rfl, cs, b, o', h2, h3, by rw [Nat.add_assoc]⟩
  · rename_i x
    simp only [Option.map_eq_some_iff] at h
    obtain ⟨y, hy, rfl⟩ := h
    cases hs with
    | imm _ b o f ho hne hG hv =>
      obtain ⟨hl, hone, hc⟩ := part_cells hy h1 ho
      have hle := part_len hy h1
      have hyne : y.cells ≠ [] := by intro e; rw [e] at hl; simp at hl; omega
      refine ⟨b, o, rfl, .imm y b (o + off) (fun j => f (off + j)) hone hyne (fun j hj => ?_) (fun j z hz => hv _ _ (hc j z hz))⟩
      rw [Nat.add_assoc]
      exact hG _ (by omega)
  · rename_i id o
    simp at h; subst h
    cases hs with
    | ptr _ _ b o' hb => exact ⟨b, o' + o, rfl, by rw [Nat.add_assoc]; exact .ptr id (o + off) b o' hb⟩
  · rename_i id ver i o
    simp at h; subst h
    cases hs with
    | ap _ _ _ _ b o' cap sz' hb => exact ⟨b, _, rfl, by rw [Nat.add_assoc]; exact .ap id ver i (o + off) b o' cap sz' hb⟩
  · simp at h

def fieldOK (P : Program) (s : TypeId) (k off sz : Nat) (ag : Bool) : Bool :=
  match P.underlying s with
  | some (.struct fs) => match fs[k]? with
    | some f => f.offset == off && tyOK P f.type sz ag
    | none => false
  | _ => false

theorem fa_sim (hF : Fr C g own w env a.tmps n L) {t : TypeId} {k off sz : Nat} {ag : Bool} (ht : fieldOK C.P t k off sz ag = true) {x : Operand} {y : Opd} (hx : opdOK C x y = true)
    {z : Sl} (hz : addrS off sz ag (env.sl y) = some z) : ∃ v, (Instr.fieldAt t (a.eval x) k).run C.P w = .ok v w ∧ SlR C g env (tmOf a.tmps) z v := by
  unfold fieldOK at ht
  split at ht
  · rename_i fs hu
    split at ht
    · rename_i f hf
      simp only [Bool.and_eq_true, beq_iff_eq] at ht
      have hty := tyIs ht.2
      have hs := sl_rel hF hx rfl (s := env.sl y) (by intro h; rw [h] at hz; simp [addrS] at hz)
      obtain ⟨b, o, h1, h2⟩ := addr_sim hty.pos hty.one hz hs
      refine ⟨_, ?_, h2⟩
      have hpos := hty.pos
      simp [Instr.fieldAt, run_underlying hu, hf, Instr.sureAddr, h1, fieldPlace, hty.run_size, ht.1, add_at]
      intro h0; omega
    · simp at ht
  · simp at ht

def arrOK (P : Program) (t : TypeId) (n sz : Nat) (ag : Bool) : Bool :=
  match P.underlying t with
  | some (.array m e) => m == n && tyOK P e sz ag
  | _ => false

theorem ia_sim (hF : Fr C g own w env a.tmps n L) {t : TypeId} {m sz : Nat} {ag : Bool} (ht : arrOK C.P t m sz ag = true) {x i : Operand} {y j : Opd} (hx : opdOK C x y = true) (hi : opdOK C i j = true)
    {q : IntKind} {k : Int} (hk : env.av j = some (.int q k)) (h0 : 0 ≤ k) (hm : k < m)
    {z : Sl} (hz : addrS (k.toNat * sz) sz ag (env.sl y) = some z) : ∃ v, (Instr.indexAt t (a.eval x) (a.eval i)).run C.P w = .ok v w ∧ SlR C g env (tmOf a.tmps) z v := by
  unfold arrOK at ht
  split at ht
  · rename_i m' e hu
    simp only [Bool.and_eq_true, beq_iff_eq] at ht
    obtain ⟨rfl, ht⟩ := ht
    have hty := tyIs ht
    have hs := sl_rel hF hx rfl (s := env.sl y) (by intro h; rw [h] at hz; simp [addrS] at hz)
    obtain ⟨b, o, h1, h2⟩ := addr_sim hty.pos hty.one hz hs
    have h3 := av_rel hF hi hk
    generalize a.eval i = vi at h3
    cases h3
    refine ⟨_, ?_, h2⟩
    simp [Instr.indexAt, asIntOf, run_underlying hu, h1, Instr.sureAddr, h0, hm, hty.run_size, add_at]
  · simp at ht

def slcOK (P : Program) (t : TypeId) (sz : Nat) : Bool :=
  match P.underlying t with
  | some (.slice e) => match P.info? e with
    | some i => i.size == sz && decide (0 < sz)
    | none => false
  | _ => false

theorem slc_is {P : Program} {t : TypeId} {sz : Nat} (h : slcOK P t sz = true) : ∃ e i, P.underlying t = some (.slice e) ∧ P.info? e = some i ∧ i.size = sz ∧ 0 < sz := by
  unfold slcOK at h
  split at h
  · rename_i e hu
    split at h
    · rename_i i hi
      simp only [Bool.and_eq_true, beq_iff_eq, decide_eq_true_eq] at h
      exact ⟨e, i, hu, hi, h.1, h.2⟩
    · simp at h
  · simp at h

theorem ix_sim (hS : St C g own B H w) (hF : Fr C g own w env a.tmps n L) {t : TypeId} {sz : Nat} (ht : slcOK C.P t sz = true) {x i : Operand} {y j : Opd} (hx : opdOK C x y = true) (hi : opdOK C i j = true)
    {z : Sl} (hz : opv env H (.ix sz y j) = some z) : ∃ v, (Instr.indexAt t (a.eval x) (a.eval i)).run C.P w = .ok v w ∧ SlR C g env (tmOf a.tmps) z v := by
  obtain ⟨e, ie, hu, hie, hsz, hpos⟩ := slc_is ht
  have hsize : (Go.sizeOf e).run C.P w = .ok sz w := by simp [Go.sizeOf, typeInfo, hie, hsz]
  simp only [opv] at hz
  split at hz
  · rename_i nl xs q k h1 h2
    split at hz
    · rename_i h0
      split at hz
      · rename_i y' hy'
        split at hz
        · rename_i hl
          simp at hz; subst hz
          have hi' := av_rel hF hi h2
          generalize a.eval i = vi at hi'
          cases hi'
          have hx' := av_rel hF hx h1
          generalize a.eval x = vx at hx'
          cases hx' with
          | nil => simp at hy'
          | list _ b o cap sz' f hc hs hne hG hv =>
            obtain ⟨hs1, hs2⟩ := hs _ _ hy'
            have hlt := (List.getElem?_eq_some_iff.1 hy').1
            refine ⟨.pointer (some ⟨b, o + k.toNat * sz, none⟩), ?_, .imm y' b _ (f k.toNat) hs2 (hne _ _ hy') (fun j hj => ?_) (fun j y hy => hv _ _ _ _ hy' hy)⟩
            · have : k < (xs.length : Int) := by omega
              simp [Instr.indexAt, asIntOf, run_underlying hu, h0, this, hsize, add_at]
            · have : sz = sz' := by omega
              subst this
              exact hG _ _ hlt (by omega)
        · simp at hz
      · simp at hz
    · simp at hz
  · rename_i id ver lo len q k h1 h2
    split at hz
    · rename_i h0
      split at hz
      · rename_i nl z' xs hg
        split at hz
        · rename_i hzz
          simp at hz; subst hz
          have hi' := av_rel hF hi h2
          generalize a.eval i = vi at hi'
          cases hi'
          have hx' := av_rel hF hx h1
          generalize a.eval x = vx at hx'
          obtain ⟨_, hall⟩ := hS.arr _ _ _ _ hg
          cases hx' with
          | msNil => omega
          | ms _ _ _ _ b o cap sz' ad hh hl ha =>
            have hsz' : sz' = sz := (hall _ _ hh).1.trans hzz
            subst hsz'
            have had : ad = ⟨b, o + lo * sz', none⟩ := ha.2.resolve_left (by omega)
            subst had
            refine ⟨.pointer (some ⟨b, o + (lo + k.toNat) * sz' + 0, none⟩), ?_, .ap id ver _ 0 b o cap sz' hh⟩
            have hlt : k < (len : Int) := h0.2
            simp [Instr.indexAt, asIntOf, run_underlying hu, h0.1, hlt, hsize, add_at, Nat.add_mul, Nat.add_assoc]
        · simp at hz
      · simp at hz
    · simp at hz
  · simp at hz
end
end Ey
