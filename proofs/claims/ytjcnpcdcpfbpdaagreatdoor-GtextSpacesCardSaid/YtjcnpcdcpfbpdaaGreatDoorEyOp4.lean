/- Slices sliced, lengths, tuples, interfaces, functions: what the model does, out of what ours does. -/
import Derived.Test.YtjcnpcdcpfbpdaaGreatDoorEyOp3
import Derived.Lib.IndexBytes
namespace Ey
open Go Go.RowKit

section
variable {C : Cx} {g : Gh} {own : Own} {B : Nat} {H : Heap} {w : World} {env : Env} {a : Act} {n : Nat} {L : List Nat}

theorem bound_run {x : Value} {y : Nat} {c : BoundsCode} {k : IntKind} {i : Int} (hx : x = .int k i) (h0 : 0 ≤ i) (hi : i ≤ y) : (Instr.sliceBound x y c).run C.P w = .ok i.toNat w := by
  subst hx
  simp [Instr.sliceBound, asIntOf, h0, hi]

/-- an optional operand's value -/
def OptR (C : Cx) (g : Gh) : Option AV → Option Value → Prop
  | none, none => True
  | some x, some v => VR C g x v
  | _, _ => False

theorem getI_inv {x : AV} {v : Value} {i : Int} (h : VR C g x v) (hi : getI x = some i) : ∃ k, v = .int k i := by
  unfold getI at hi
  split at hi
  · simp at hi; subst hi; cases h; exact ⟨_, rfl⟩
  · simp at hi

theorem bounds_run {len cap : Nat} {lo hi : Option AV} {vl vh : Option Value} {l h : Nat} (hb : slBounds len lo hi = some (l, h)) (hl : OptR C g lo vl) (hh : OptR C g hi vh) (hc : len ≤ cap) (s : Bool) :
    (Instr.sliceBounds s len cap vl vh none).run C.P w = .ok (l, h, cap) w ∧ l ≤ h ∧ h ≤ len := by
  unfold slBounds at hb
  split at hb
  · simp at hb
  · rename_i q hq
    split at hb
    · simp at hb
    · rename_i p hp
      split at hb
      · rename_i hx
        obtain ⟨h1, h2, h3⟩ := hx
        simp at hb
        obtain ⟨rfl, rfl⟩ := hb
        refine ⟨?_, by omega, by omega⟩
        have e1 : (vh = none ∧ q = len) ∨ ∃ k, vh = some (.int k q) := by
          cases hi with
          | none => cases vh with
            | none => simp at hq; exact .inl ⟨rfl, hq.symm⟩
            | some v => simp [OptR] at hh
          | some x => cases vh with
            | none => simp [OptR] at hh
            | some v =>
              obtain ⟨k, rfl⟩ := getI_inv hh hq
              exact .inr ⟨k, rfl⟩
        have e2 : (vl = none ∧ p = 0) ∨ ∃ k, vl = some (.int k p) := by
          cases lo with
          | none => cases vl with
            | none => simp at hp; exact .inl ⟨rfl, hp.symm⟩
            | some v => simp [OptR] at hl
          | some x => cases vl with
            | none => simp [OptR] at hl
            | some v =>
              obtain ⟨k, rfl⟩ := getI_inv hl hp
              exact .inr ⟨k, rfl⟩
        have q0 : 0 ≤ q := by omega
        have qc : q ≤ (cap : Int) := by omega
        have pq : p ≤ max q 0 := by omega
        rcases e1 with ⟨rfl, rfl⟩ | ⟨k, rfl⟩ <;> rcases e2 with ⟨rfl, rfl⟩ | ⟨k', rfl⟩ <;> simp [Instr.sliceBounds, Instr.sliceBound, asIntOf, h1, h2, q0, qc, pq]
      · simp at hb

theorem sl_sim (hS : St C g own B H w) {t : TypeId} {sz : Nat} (ht : slcOK C.P t sz = true) {x z : AV} {lo hi mx : Option AV} {vx : Value} {vl vh vm : Option Value} (hz : slAV H sz x lo hi mx = some z)
    (hx : VR C g x vx) (hl : OptR C g lo vl) (hh : OptR C g hi vh) (hm : OptR C g mx vm) : ∃ v, (Instr.slice t vx vl vh vm).run C.P w = .ok v w ∧ VR C g z v := by
  obtain ⟨e, ie, hu, hie, hsz, hpos⟩ := slc_is ht
  have hsize : (Go.sizeOf e).run C.P w = .ok sz w := by simp [Go.sizeOf, typeInfo, hie, hsz]
  unfold slAV at hz
  split at hz
  · rename_i m
    cases vm with
    | none => simp [OptR] at hm
    | some um =>
      split at hz
      · rename_i nl xs
        simp only [OptR] at hm
        cases hm
        cases vl with
        | some _ => simp [OptR] at hl
        | none =>
          cases vh with
          | none => simp [OptR] at hh
          | some uh =>
            simp only [OptR] at hh
            cases hh
            cases hx with
            | nil =>
              simp at hz; subst hz
              exact ⟨_, by simp [Instr.slice, run_underlying hu, Instr.sliceBounds, Instr.sliceBound, asIntOf, hsize], .nil⟩
            | list _ b o cap sz' f hc hs hne hG hv =>
              simp at hz; subst hz
              exact ⟨_, by simp [Instr.slice, run_underlying hu, Instr.sliceBounds, Instr.sliceBound, asIntOf, hsize]; rfl, .cap0 _ rfl⟩
      · simp only [OptR] at hm
        cases hm
        cases vl with
        | some _ => simp [OptR] at hl
        | none =>
          cases vh with
          | none => simp [OptR] at hh
          | some uh =>
            simp only [OptR] at hh
            cases hh
            cases hx with | cap0 _ hsp =>
            simp at hz; subst hz
            exact ⟨_, by simp [Instr.slice, run_underlying hu, Instr.sliceBounds, Instr.sliceBound, asIntOf, hsize], .cap0 _ hsp⟩
      · simp at hz
  · cases vm with
    | some _ => simp [OptR] at hm
    | none =>
      split at hz
      · rename_i nl xs
        split at hz
        · rename_i hall
          simp only [Option.map_eq_some_iff] at hz
          obtain ⟨⟨l, h⟩, hb, rfl⟩ := hz
          simp only
          cases hx with
          | nil =>
            obtain ⟨h1, h2, h3⟩ := bounds_run (w := w) (cap := 0) hb hl hh (by simp) true
            obtain rfl : h = 0 := by simpa using h3
            obtain rfl : l = 0 := by omega
            simp only [List.length_nil] at h1
            exact ⟨_, by simp [Instr.slice, run_underlying hu, h1, hsize]; rfl, by simpa using VR.nil⟩
          | list _ b o cap sz' f hc hs hne hG hv =>
            obtain ⟨h1, h2, h3⟩ := bounds_run (w := w) hb hl hh hc true
            have hlen : ((xs.drop l).take (h - l)).length = h - l := by simp; omega
            have hget : ∀ (i : Nat) (x : AV), ((xs.drop l).take (h - l))[i]? = some x → xs[l + i]? = some x ∧ i < h - l := by
              intro i x hx
              have hi : i < h - l := by
                have := (List.getElem?_eq_some_iff.1 hx).1
                omega
              rw [List.getElem?_take, if_pos hi, List.getElem?_drop] at hx
              exact ⟨hx, hi⟩
            by_cases hcl : cap = l
            · subst hcl
              obtain rfl : h = cap := by omega
              refine ⟨.slice (some ⟨b, o, none⟩) 0 0, by simp [Instr.slice, run_underlying hu, h1, hsize], ?_⟩
              have hnil : (xs.drop h).take (h - h) = [] := by simp
              rw [hnil]
              exact .list [] b o 0 0 f (by simp) (fun i x hx => by simp at hx) (fun i x hx => by simp at hx) (fun i j hi => by simp at hi) (fun i j x y hx => by simp at hx)
            · refine ⟨.slice (some ⟨b, o + l * sz, none⟩) (h - l) (cap - l), by simp [Instr.slice, run_underlying hu, h1, hsize, hcl, add_at], ?_⟩
              by_cases h0 : h - l = 0
              · have hnil : (xs.drop l).take (h - l) = [] := by rw [h0]; simp
                rw [hnil, h0]
                exact .list [] b _ _ 0 f (by simp) (fun i x hx => by simp at hx) (fun i x hx => by simp at hx) (fun i j hi => by simp at hi) (fun i j x y hx => by simp at hx)
              · have hszz : sz' = sz := by
                  have hlt : l < xs.length := by omega
                  have h4 := (hs l _ (List.getElem?_eq_getElem hlt)).1
                  have h5 := List.all_eq_true.1 hall _ (List.getElem_mem hlt)
                  simp at h5
                  omega
                subst hszz
                have key := VR.list (C := C) (g := g) ((xs.drop l).take (h - l)) b (o + l * sz') (cap - l) sz' (fun i j => f (l + i) j) (by omega)
                  (fun i x hx => hs _ _ (hget i x hx).1) (fun i x hx => hne _ _ (hget i x hx).1) (fun i j hi hj => by
                    rw [hlen] at hi
                    have := hG (l + i) j (by omega) hj
                    rwa [show o + (l + i) * sz' + j = o + l * sz' + i * sz' + j by rw [Nat.add_mul]; omega] at this)
                  (fun i j x y hx hy => hv _ _ _ _ (hget i x hx).1 hy)
                rwa [hlen] at key
        · simp at hz
      · simp only [Option.map_eq_some_iff] at hz
        obtain ⟨⟨l, h⟩, hb, rfl⟩ := hz
        cases hx with
        | cap0 ad hsp =>
          obtain ⟨h1, h2, h3⟩ := bounds_run (w := w) (cap := 0) hb hl hh (by simp) true
          obtain rfl : h = 0 := by omega
          obtain rfl : l = 0 := by omega
          exact ⟨_, by simp [Instr.slice, run_underlying hu, h1, hsize], .cap0 _ hsp⟩
      · rename_i id ver lo' len
        split at hz
        · rename_i nl z' xs hg
          split at hz
          · rename_i hzz
            simp only [Option.map_eq_some_iff] at hz
            obtain ⟨⟨l, h⟩, hb, rfl⟩ := hz
            simp only
            obtain ⟨_, hall⟩ := hS.arr _ _ _ _ hg
            cases hx with
            | msNil _ sz' hh' =>
              obtain ⟨h1, h2, h3⟩ := bounds_run (w := w) (cap := 0) hb hl hh (by simp) true
              obtain rfl : h = 0 := by omega
              obtain rfl : l = 0 := by omega
              exact ⟨_, by simp [Instr.slice, run_underlying hu, h1, hsize], .msNil _ _ hh'⟩
            | ms _ _ _ _ b o cap sz' ad hh' hlc ha =>
              have hsz' : sz' = sz := (hall _ _ hh').1.trans hzz
              subst hsz'
              obtain ⟨h1, h2, h3⟩ := bounds_run (w := w) (cap := cap - lo') hb hl hh (by omega) true
              by_cases hcl : cap - lo' = l
              · subst hcl
                refine ⟨.slice (some ad) (h - (cap - lo')) (cap - lo' - (cap - lo')), by simp [Instr.slice, run_underlying hu, h1, hsize], ?_⟩
                rw [Nat.sub_sub]
                exact .ms id ver _ _ b o cap sz' _ hh' (by omega) ⟨ha.1, .inl (by omega)⟩
              · have had : ad = ⟨b, o + lo' * sz', none⟩ := ha.2.resolve_left (by omega)
                subst had
                refine ⟨.slice (some ⟨b, o + lo' * sz' + l * sz', none⟩) (h - l) (cap - lo' - l), by simp [Instr.slice, run_underlying hu, h1, hsize, hcl, add_at], ?_⟩
                rw [Nat.sub_sub]
                exact .ms id ver _ _ b o cap sz' _ hh' (by omega) ⟨rfl, .inr (by rw [Nat.add_mul, Nat.add_assoc])⟩
          · simp at hz
        · simp at hz
      · simp at hz
end
end Ey
