/- Aggregates and slices built out of parts. -/
import Derived.Test.YtjcnpcdcpfbpdaaGreatDoorEyOp5
import Derived.Laws.Tables
namespace Ey
open Go Go.RowKit

theorem foldl_put (off : Nat) : ∀ (vs : List Value) (k : Nat) (cs : Array Value), off + k + vs.length ≤ cs.size →
    ((vs.zipIdx k).foldl (fun (cs : Array Value) (p : Value × Nat) => cs.setIfInBounds (off + p.2) p.1) cs).toList = cs.toList.take (off + k) ++ vs ++ cs.toList.drop (off + k + vs.length)
  | [], k, cs, _ => by simp
  | v :: vs, k, cs, h => by
    simp only [List.length_cons] at h
    have hlt : off + k < cs.size := by omega
    rw [List.zipIdx_cons, List.foldl_cons, foldl_put off vs (k + 1) _ (by simp; omega)]
    simp only [Array.toList_setIfInBounds, List.length_cons]
    have e : off + (k + 1) = off + k + 1 := by omega
    rw [e]
    have hl : off + k < cs.toList.length := by simpa using hlt
    rw [List.take_set, List.drop_set, if_pos (by omega), List.take_succ_eq_append_getElem hl]
    rw [List.set_append_right _ _ (by simp; omega)]
    simp [Nat.min_eq_left (Nat.le_of_lt hlt)]
    omega

/-- the model's parts and ours -/
inductive PartsR (C : Cx) (g : Gh) (place : Nat → Option (Nat × Nat)) : List (Nat × Value) → List ((Nat × Nat) × AV) → Prop
  | nil : PartsR C g place [] []
  | cons (i : Nat) (v : Value) (off sz : Nat) (x : AV) (vs xs) (hp : place i = some (off, sz)) (h0 : 0 < sz) (hr : VR C g x v) (h : PartsR C g place vs xs) :
      PartsR C g place ((i, v) :: vs) (((off, sz), x) :: xs)

theorem CR.put {C : Cx} {g : Gh} {cs ds : List AV} {ws us : List Value} (h : CR C g cs ws) (k : CR C g ds us) (off : Nat) (hl : off + ds.length ≤ cs.length) :
    CR C g (putAt cs off ds) (ws.take off ++ us ++ ws.drop (off + us.length)) := by
  have e1 := h.len
  have e2 := k.len
  refine ⟨by simp [putAt]; omega, fun c hc => ?_, fun i x y hx hy => ?_⟩
  · simp only [putAt, List.mem_append] at hc
    rcases hc with (hc | hc) | hc
    · exact h.one c (List.mem_of_mem_take hc)
    · exact k.one c hc
    · exact h.one c (List.mem_of_mem_drop hc)
  · simp only [putAt] at hx
    rw [List.append_assoc] at hx hy
    by_cases h1 : i < off
    · rw [List.getElem?_append_left (by simp; omega), List.getElem?_take, if_pos h1] at hx hy
      exact h.rel i x y hx hy
    · rw [List.getElem?_append_right (by simp; omega)] at hx hy
      simp only [List.length_take] at hx hy
      rw [Nat.min_eq_left (by omega)] at hx hy
      by_cases h2 : i - off < ds.length
      · rw [List.getElem?_append_left h2] at hx
        rw [List.getElem?_append_left (by omega)] at hy
        exact k.rel _ x y hx hy
      · rw [List.getElem?_append_right (by omega), List.getElem?_drop] at hx hy
        rw [← e2] at hy
        exact h.rel _ x y hx hy

theorem fill_rel {C : Cx} {g : Gh} {place : Nat → Option (Nat × Nat)} {ps : List (Nat × Value)} {qs : List ((Nat × Nat) × AV)} (h : PartsR C g place ps qs) :
    ∀ {cs r : List AV} {ws : Array Value}, CR C g cs ws.toList → fillAV cs qs = some r → ∃ rs, Instr.fill place ws ps = some rs ∧ CR C g r rs.toList := by
  induction h with
  | nil => intro cs r ws hc hf; simp [fillAV] at hf; subst hf; exact ⟨ws, rfl, hc⟩
  | cons i v off sz x vs xs hp h0 hr _ ih =>
    intro cs r ws hc hf
    simp only [fillAV] at hf
    split at hf
    · rename_i hle
      have hk := VR.cells hr (.inl (by intro e; rw [e] at hle; simp at hle; omega))
      have hlen := hc.len
      have hlk := hk.len
      have hput := hc.put hk off (by omega)
      have hsz : v.cells.size = sz := by have := hlk; simp at this; omega
      have hfold : (v.cells.zipIdx.foldl (fun cs (c, j) => cs.setIfInBounds (off + j) c) ws).toList = ws.toList.take off ++ v.cells.toList ++ ws.toList.drop (off + v.cells.toList.length) := by
        rw [← Array.foldl_toList, Array.toList_zipIdx]
        have := foldl_put off v.cells.toList 0 ws (by simp at hlen ⊢; omega)
        simpa using this
      rw [← hfold] at hput
      obtain ⟨rs, h1, h2⟩ := ih hput hf
      refine ⟨rs, ?_, h2⟩
      have hn : ¬ (v.cells.size ≠ sz ∨ off + v.cells.size > ws.size) := by simp at hlen; omega
      simp only [Instr.fill, hp]
      rw [if_neg (by simpa using hn)]
      exact h1
    · simp at hf

/-- the places of a type's parts -/
def placesOf (P : Program) (t : TypeId) : Nat → Option (Nat × Nat) :=
  match P.underlying t with
  | some (.array _ e) => match P.info? e with
    | some ie => fun i => some (i * ie.size, ie.size)
    | none => fun _ => none
  | some (.struct fields) => match fields.toList.mapM (fun f => (P.info? f.type).map fun i => (f.offset, i.size)) with
    | some places => (places.toArray[·]?)
    | none => fun _ => none
  | _ => fun _ => none

def builtOK (P : Program) (t : TypeId) : Bool :=
  match P.underlying t with
  | some (.array _ e) => (P.info? e).isSome
  | some (.struct fields) => (fields.toList.mapM (fun f => (P.info? f.type).map fun i => (f.offset, i.size))).isSome
  | _ => false

def partsOK (C : Cx) (place : Nat → Option (Nat × Nat)) : List (Nat × Operand) → List ((Nat × Nat) × Opd) → Bool
  | [], [] => true
  | (i, x) :: xs, ((off, sz), y) :: ys => place i == some (off, sz) && decide (0 < sz) && opdOK C x y && partsOK C place xs ys
  | _, _ => false

section
variable {C : Cx} {g : Gh} {own : Own} {B : Nat} {H : Heap} {w : World} {env : Env} {a : Act} {n : Nat} {L : List Nat}

theorem parts_rel (hF : Fr C g own w env a.tmps n L) {place : Nat → Option (Nat × Nat)} : ∀ {xs : List (Nat × Operand)} {ys : List ((Nat × Nat) × Opd)}, partsOK C place xs ys = true → ∀ {qs : List ((Nat × Nat) × AV)}, allParts env ys = some qs →
    PartsR C g place (xs.map fun (i, x) => (i, a.eval x)) qs
  | [], [], _, qs, hq => by simp [allParts] at hq; subst hq; exact .nil
  | [], _ :: _, h, _, _ => by simp [partsOK] at h
  | (_, _) :: _, [], h, _, _ => by simp [partsOK] at h
  | (i, x) :: xs, ((off, sz), y) :: ys, h, qs, hq => by
    simp only [partsOK, Bool.and_eq_true, beq_iff_eq, decide_eq_true_eq] at h
    simp only [allParts] at hq
    split at hq
    · simp at hq
    · rename_i v hv
      simp only [Option.map_eq_some_iff] at hq
      obtain ⟨us, hu, rfl⟩ := hq
      exact .cons i _ off sz v _ _ h.1.1.1 h.1.1.2 (av_rel hF h.1.2 hv) (parts_rel hF h.2 hu)

theorem bld_sim {t : TypeId} {z : AV} (hz : zeroOK C.P t z = true) (hb : builtOK C.P t = true) {ps : List (Nat × Value)} {qs : List ((Nat × Nat) × AV)} (hp : PartsR C g (placesOf C.P t) ps qs) (hag : ∃ cs, z = .agg cs)
    {r : List AV} (hf : fillAV z.cells qs = some r) : ∃ v, (Instr.build t ps.toArray).run C.P w = .ok v w ∧ VR C g (.agg r) v := by
  unfold zeroOK at hz
  split at hz
  · rename_i i hi
    split at hz
    · rename_i zv hzv
      have h1 := VR.cells (cv_rel (C := C) (g := g) hz) (.inr hag)
      obtain ⟨rs, h2, h3⟩ := fill_rel hp h1 hf
      refine ⟨.agg rs, run_build w t _ rs ?_, .agg _ _ (by simpa using h3.len) h3.one (fun i x y hx hy => h3.rel i x y hx (by simpa using hy))⟩
      unfold Program.built
      rw [hi]
      unfold builtOK at hb
      unfold placesOf at h2
      split at hb
      · rename_i m e hu
        rw [hu] at h2 ⊢
        cases he : C.P.info? e with
        | none => simp [he] at hb
        | some ie => simp only [he] at h2; simpa [hzv, he] using h2
      · rename_i fs hu
        rw [hu] at h2 ⊢
        cases he : fs.toList.mapM (fun f => (C.P.info? f.type).map fun i => (f.offset, i.size)) with
        | none => simp [he] at hb
        | some places => simp only [he] at h2; simpa [hzv, he] using h2
      · simp at hb
    · simp at hz
  · simp at hz

/-- elements, cell by cell -/
def flat (xs : List AV) : List AV := xs.flatMap AV.cells

theorem flat_len {sz : Nat} : ∀ {xs : List AV}, (∀ x ∈ xs, x.cells.length = sz) → (flat xs).length = xs.length * sz
  | [], _ => by simp [flat]
  | x :: xs, h => by
    have := flat_len (xs := xs) (fun y hy => h y (by simp [hy]))
    simp only [flat, List.flatMap_cons, List.length_append, List.length_cons] at this ⊢
    rw [h x (by simp), this, Nat.add_mul, Nat.one_mul, Nat.add_comm]

theorem flat_get {sz : Nat} : ∀ {xs : List AV}, (∀ x ∈ xs, x.cells.length = sz) → ∀ {i j : Nat} {x : AV}, xs[i]? = some x → j < sz → (flat xs)[i * sz + j]? = x.cells[j]?
  | [], _, i, j, x, hx, _ => by simp at hx
  | y :: xs, h, i, j, x, hx, hj => by
    have hy := h y (by simp)
    cases i with
    | zero =>
      simp at hx; subst hx
      simp only [flat, List.flatMap_cons, Nat.zero_mul, Nat.zero_add]
      rw [List.getElem?_append_left (by omega)]
    | succ i =>
      have := flat_get (xs := xs) (fun z hz => h z (by simp [hz])) (i := i) (by simpa using hx) hj
      simp only [flat, List.flatMap_cons] at this ⊢
      rw [List.getElem?_append_right (by rw [Nat.add_mul]; omega)]
      rw [← this]
      congr 1
      rw [Nat.add_mul]
      omega

theorem flat_set {sz : Nat} : ∀ {xs : List AV}, (∀ x ∈ xs, x.cells.length = sz) → ∀ {i : Nat} {v : AV}, i < xs.length → v.cells.length = sz → flat (xs.set i v) = putAt (flat xs) (i * sz) v.cells
  | [], _, i, v, hi, _ => by simp at hi
  | y :: xs, h, i, v, hi, hv => by
    have hy := h y (by simp)
    cases i with
    | zero => 
      simp only [flat, List.set_cons_zero, List.flatMap_cons, putAt, Nat.zero_mul, List.take_zero, List.nil_append, Nat.zero_add, hv]
      rw [List.drop_append, hy]
      simp [← hy]
    | succ i =>
      have := flat_set (xs := xs) (fun z hz => h z (by simp [hz])) (i := i) (v := v) (by simpa using hi) hv
      simp only [flat, List.set_cons_succ, List.flatMap_cons, putAt] at this ⊢
      rw [this]
      have e : (i + 1) * sz = sz + i * sz := by rw [Nat.add_mul]; omega
      rw [e, List.take_append, List.drop_append, List.take_of_length_le (l := y.cells) (by omega), List.drop_of_length_le (l := y.cells) (by omega)]
      simp [← hy, Nat.add_assoc]
end
end Ey
