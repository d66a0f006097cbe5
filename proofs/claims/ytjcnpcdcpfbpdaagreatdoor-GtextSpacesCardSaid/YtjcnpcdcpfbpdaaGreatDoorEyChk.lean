/- When an operation of the model and one of ours are the same; the operations that change nothing. -/
import Derived.Test.YtjcnpcdcpfbpdaaGreatDoorEyRel
namespace Ey
open Go Go.RowKit

def cvCell : Value → AV → Bool
  | .bool a, .bool b => a == b
  | .int k n, .int k' m => k == k' && n == m
  | .string s, .str l => s.data.toList == l
  | .float k n, .flt k' m => k == k' && n == m
  | .slice none 0 0, .list true [] => true
  | .pointer none, .nilp => true
  | .nilFunc, .nilfn => true
  | .nilIface, .niliface => true
  | .map none, .nilmap => true
  | _, _ => false

def cvCells : List Value → List AV → Bool
  | [], [] => true
  | v :: vs, x :: xs => cvCell v x && cvCells vs xs
  | _, _ => false

/-- a constant of the model and one of ours -/
def cv : Value → AV → Bool
  | .agg vs, .agg xs => cvCells vs.toList xs
  | v, x => cvCell v x

theorem cvCell_rel {C : Cx} {g : Gh} {v : Value} {x : AV} (h : cvCell v x = true) : VR C g x v ∧ x.one = true := by
  unfold cvCell at h
  split at h
  case h_1 => simp at h; subst h; exact ⟨.bool _, rfl⟩
  case h_2 => simp at h; obtain ⟨rfl, rfl⟩ := h; exact ⟨.int _ _, rfl⟩
  case h_3 => simp at h; subst h; exact ⟨.str _, rfl⟩
  case h_4 => simp at h; obtain ⟨rfl, rfl⟩ := h; exact ⟨.flt _ _, rfl⟩
  case h_5 => exact ⟨.nil, rfl⟩
  case h_6 => exact ⟨.nilp, rfl⟩
  case h_7 => exact ⟨.nilfn, rfl⟩
  case h_8 => exact ⟨.niliface, rfl⟩
  case h_9 => exact ⟨.nilmap, rfl⟩
  case h_10 => simp at h

theorem cvCells_rel {C : Cx} {g : Gh} : ∀ {vs : List Value} {xs : List AV}, cvCells vs xs = true → CR C g xs vs
  | [], [], _ => ⟨rfl, fun _ h => by simp at h, fun _ _ _ h => by simp at h⟩
  | [], _ :: _, h => by simp [cvCells] at h
  | _ :: _, [], h => by simp [cvCells] at h
  | v :: vs, x :: xs, h => by
    simp only [cvCells, Bool.and_eq_true] at h
    have h1 := cvCell_rel (C := C) (g := g) h.1
    have ih := cvCells_rel (C := C) (g := g) h.2
    refine ⟨by simp [ih.len], fun c hc => ?_, fun i a b ha hb => ?_⟩
    · rcases List.mem_cons.1 hc with rfl | hc
      · exact h1.2
      · exact ih.one c hc
    · cases i with
      | zero => simp at ha hb; exact ha ▸ hb ▸ h1.1
      | succ i => exact ih.rel i a b (by simpa using ha) (by simpa using hb)

theorem cv_rel {C : Cx} {g : Gh} {v : Value} {x : AV} (h : cv v x = true) : VR C g x v := by
  unfold cv at h
  split at h
  · rename_i vs xs
    have := cvCells_rel (C := C) (g := g) h
    exact .agg _ _ (by simpa using this.len) this.one (fun i a b ha hb => this.rel i a b ha (by simpa using hb))
  · exact (cvCell_rel h).1

/-- cells of package variables, by a table -/
def glf (l : List (Nat × List Value)) : Nat → Nat → Option Value := fun b o => (l.lookup b).bind fun c => c[o]?
/-- a package variable that is never written: its cells -/
def glbCells (C : Cx) (n : Nat) : Nat → List AV → Bool
  | _, [] => true
  | o, x :: r => (match C.gl n o with
    | some v => cvCell v x
    | none => false) && glbCells C n (o + 1) r
def glbOK (C : Cx) (n : Nat) (x : AV) : Bool := match x with
  | .agg [] => false
  | .tup _ => false
  | .undef => false
  | x => glbCells C n 0 x.cells

theorem glbCells_get {C : Cx} {n : Nat} : ∀ {l : List AV} {o : Nat}, glbCells C n o l = true → ∀ (j : Nat) (y : AV), l[j]? = some y → ∃ v, C.gl n (o + j) = some v ∧ cvCell v y = true
  | [], _, _, j, y, hy => by simp at hy
  | x :: r, o, h, j, y, hy => by
    simp only [glbCells, Bool.and_eq_true] at h
    cases j with
    | zero =>
      simp at hy
      subst hy
      revert h
      cases C.gl n o with
      | none => intro h; cases h.1
      | some v => intro h; exact ⟨v, rfl, h.1⟩
    | succ j =>
      have := glbCells_get h.2 j y (by simpa using hy)
      rw [show o + (j + 1) = o + 1 + j from by omega]; exact this
theorem glb_rel {C : Cx} {g : Gh} {n : Nat} {x : AV} (hg : ∀ b o v, C.gl b o = some v → g.G b o = some v) (h : glbOK C n x = true) : VR C g (.imm x) (.pointer (some ⟨n, 0, none⟩)) := by
  have hne : x.cells ≠ [] := by
    cases x with
    | agg cs => cases cs with
      | nil => simp [glbOK] at h
      | cons a l => simp [AV.cells]
    | tup cs => simp [glbOK] at h
    | undef => simp [glbOK] at h
    | _ => simp [AV.cells]
  have hc : glbCells C n 0 x.cells = true := by
    unfold glbOK at h
    split at h <;> first | cases h | exact h
  have key : ∀ (j : Nat) (y : AV), x.cells[j]? = some y → ∃ v, C.gl n j = some v ∧ cvCell v y = true := fun j y hy => by
    have := glbCells_get hc j y hy
    rwa [Nat.zero_add] at this
  refine .imm x n 0 (fun j => (C.gl n j).getD (.bool false)) (fun c hcm => ?_) hne (fun j hj => ?_) (fun j y hy => ?_)
  · obtain ⟨j, hj⟩ := List.getElem?_of_mem hcm
    obtain ⟨v, _, hv⟩ := key j c hj
    exact (cvCell_rel (C := C) (g := g) hv).2
  · obtain ⟨v, h1, _⟩ := key j _ (List.getElem?_eq_getElem hj)
    rw [Nat.zero_add]
    simp only [h1, Option.getD_some]
    exact hg n j v h1
  · obtain ⟨v, h1, hv⟩ := key j y hy
    simp only [h1, Option.getD_some]
    exact (cvCell_rel hv).1

def opdOK (C : Cx) : Operand → Opd → Bool
  | .tmp t, .t u => t == u
  | .const v, .k x => cv v x
  | .func f, .k (.fn f' []) => C.fm f' == some f
  | .global n, .k (.imm x) => glbOK C n x
  | _, _ => false

def opdsOK (C : Cx) : List Operand → List Opd → Bool
  | [], [] => true
  | x :: xs, y :: ys => opdOK C x y && opdsOK C xs ys
  | _, _ => false

def optOK (C : Cx) : Option Operand → Option Opd → Bool
  | none, none => true
  | some x, some y => opdOK C x y
  | _, _ => false

/-- how a slot's content shows in the model -/
def SlR (C : Cx) (g : Gh) (env : Env) (tm : Nat → Value) (x : Sl) (v : Value) : Prop :=
  match x with
  | .v y => VR C g y v
  | .lp s off => ∃ cs b o, env.get s = .lv cs ∧ tm s = .pointer (some ⟨b, o, none⟩) ∧ v = .pointer (some ⟨b, o + off, none⟩)
  | .un => v = undef
  | _ => True

section
variable {C : Cx} {g : Gh} {own : Own} {w : World} {env : Env} {a : Act} {n : Nat} {L : List Nat}

theorem sl_rel (hf : Fr C g own w env a.tmps n L) {x : Operand} {y : Opd} (h : opdOK C x y = true) {s : Sl} (hs : env.sl y = s) (hn : s ≠ .no) :
    SlR C g env (tmOf a.tmps) s (a.eval x) := by
  cases x <;> cases y <;> simp [opdOK] at h
  case tmp.t t u =>
    subst h
    have h1 := hf.slots t
    simp only [SlotOK] at h1
    simp only [Env.sl] at hs
    cases hg : env.get t with
    | no => simp only [hg] at hs; exact absurd hs.symm hn
    | un => simp only [hg] at hs h1; subst hs; exact h1
    | v z => simp only [hg] at hs h1; subst hs; exact h1
    | lv cs =>
      simp only [hg] at hs h1; subst hs
      obtain ⟨b, o, h2, _⟩ := h1
      exact ⟨cs, b, o, hg, h2, h2⟩
    | lp s' off =>
      simp only [hg] at hs h1; subst hs
      exact h1
  case const.k v z =>
    simp only [Env.sl] at hs; subst hs
    exact cv_rel h
  case func.k f z =>
    cases z <;> try (simp at h; done)
    case fn f' l =>
      cases l with
      | nil =>
        simp only [Env.sl] at hs; subst hs
        exact .fn f' [] f #[] (by simpa using h) rfl (fun i x y hx => by simp at hx)
      | cons _ _ => simp at h
  case global.k m z =>
    cases z <;> try (simp at h; done)
    case imm x =>
      simp only [Env.sl] at hs; subst hs
      exact glb_rel hf.gl h

theorem av_rel (hf : Fr C g own w env a.tmps n L) {x : Operand} {y : Opd} (h : opdOK C x y = true) {z : AV} (hz : env.av y = some z) : VR C g z (a.eval x) := by
  unfold Env.av at hz
  split at hz
  · rename_i q hq
    simp at hz; subst hz
    exact sl_rel hf h hq (by simp)
  · simp at hz
end

/-- a type of so many cells, of many values or one -/
def tyOK (P : Program) (t : TypeId) (sz : Nat) (ag : Bool) : Bool :=
  match P.info? t, P.underlying t with
  | some i, some d => i.size == sz && (match d with | .struct _ | .array _ _ => true | _ => false) == ag && decide (0 < sz) && (ag || sz == 1)
  | _, _ => false

structure TyIs (P : Program) (t : TypeId) (sz : Nat) (ag : Bool) : Prop where
  info : ∃ i, P.info? t = some i ∧ i.size = sz
  und : ∃ d, P.underlying t = some d ∧ (match d with | .struct _ | .array _ _ => true | _ => false) = ag
  pos : 0 < sz
  one : ag = false → sz = 1

theorem tyIs {P : Program} {t : TypeId} {sz : Nat} {ag : Bool} (h : tyOK P t sz ag = true) : TyIs P t sz ag := by
  unfold tyOK at h
  split at h
  · rename_i i d hi hd
    simp only [Bool.and_eq_true, beq_iff_eq, decide_eq_true_eq, Bool.or_eq_true] at h
    obtain ⟨⟨⟨h1, h2⟩, h3⟩, h4⟩ := h
    exact ⟨⟨i, hi, h1⟩, ⟨d, hd, h2⟩, h3, fun h => by rcases h4 with h4 | h4 <;> simp_all⟩
  · simp at h

theorem TyIs.run_isAgg {P : Program} {t : TypeId} {sz : Nat} {ag : Bool} (h : TyIs P t sz ag) (w : World) : (isAgg t).run P w = .ok ag w := by
  obtain ⟨d, hd, h2⟩ := h.und
  subst h2
  simp only [isAgg, Sem.run_bind, run_underlying hd, Result.andThen_ok]
  cases d <;> rfl

theorem TyIs.run_size {P : Program} {t : TypeId} {sz : Nat} {ag : Bool} (h : TyIs P t sz ag) (w : World) : (Go.sizeOf t).run P w = .ok sz w := by
  obtain ⟨i, hi, h2⟩ := h.info
  subst h2
  simp [Go.sizeOf, typeInfo, hi]

theorem add_at (b o n : Nat) : (⟨b, o, none⟩ : Addr).add n = ⟨b, o + n, none⟩ := by
  unfold Addr.add; split <;> simp_all

/-- a load of a variable whose cells are known -/
theorem run_loadVar_at {P : Program} {t : TypeId} {sz : Nat} {ag : Bool} (h : TyIs P t sz ag) (w : World) (b o : Nat) (vs : List Value) (hl : vs.length = sz)
    (hc : ∀ j v, vs[j]? = some v → w.cell? ⟨b, o + j, none⟩ = some v) :
    (loadVar t ⟨b, o, none⟩).run P w = .ok (if ag then .agg vs.toArray else vs.headD undef) w := by
  simp only [loadVar, Sem.run_bind, h.run_isAgg, Result.andThen_ok]
  cases ag with
  | true =>
    simp only [if_true, Sem.run_bind, h.run_size, Result.andThen_ok]
    have := run_loadCells_list (P := P) w ⟨b, o, none⟩ vs (fun j v hv => by rw [add_at]; exact hc j v hv)
    rw [hl] at this
    simp [this]
  | false =>
    have h1 := h.one rfl
    subst h1
    match vs, hl with
    | [v], _ =>
      have := hc 0 v rfl
      simp only [Nat.add_zero] at this
      simp [run_load, this]

/-- a part of known cells, as a value -/
theorem part_rel {C : Cx} {g : Gh} {sz off : Nat} {ag : Bool} {cs : List AV} {x : AV} (hp : part sz ag cs off = some x) {vs : List Value} (hl : vs.length = sz) (h1 : ag = false → sz = 1)
    (ho : ∀ c ∈ cs, c.one = true) (hr : ∀ (j : Nat) (y : AV) (v : Value), cs[off + j]? = some y → vs[j]? = some v → VR C g y v) :
    VR C g x (if ag then .agg vs.toArray else vs.headD undef) ∧ x.cells.length = sz ∧ (∀ c ∈ x.cells, c.one = true) := by
  unfold part at hp
  cases ag with
  | true =>
    simp only [if_true] at hp
    split at hp
    · rename_i hle
      simp at hp; subst hp
      have hlen : ((cs.drop off).take sz).length = sz := by simp; omega
      refine ⟨.agg _ _ (by simp [hl]; omega) (fun c hc => ho c (List.mem_of_mem_drop (List.mem_of_mem_take hc))) (fun i a b ha hb => ?_), hlen, fun c hc => ho c (List.mem_of_mem_drop (List.mem_of_mem_take hc))⟩
      have hi : i < sz := by
        have := (List.getElem?_eq_some_iff.1 ha).1
        omega
      rw [List.getElem?_take, if_pos hi, List.getElem?_drop] at ha
      exact hr i a b ha (by simpa using hb)
    · simp at hp
  | false =>
    simp only [Bool.false_eq_true, if_false] at hp
    have hs := h1 rfl
    subst hs
    have hone := ho x (List.mem_of_getElem? hp)
    match vs, hl with
    | [v], _ =>
      refine ⟨by simpa using hr 0 x v (by simpa using hp) rfl, by rw [AV.one_cells hone]; rfl, by rw [AV.one_cells hone]; simpa using hone⟩

theorem part_len {sz off : Nat} {ag : Bool} {cs : List AV} {x : AV} (hp : part sz ag cs off = some x) (h1 : ag = false → sz = 1) : off + sz ≤ cs.length := by
  unfold part at hp
  cases ag with
  | true => simp only [if_true] at hp; split at hp <;> simp_all
  | false =>
    simp only [Bool.false_eq_true, if_false] at hp
    have := (List.getElem?_eq_some_iff.1 hp).1
    have := h1 rfl
    omega

end Ey
