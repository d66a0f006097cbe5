/- Structs and arrays of plain cells held against each other. -/
import Derived.Test.YtjcnpcdcpfbpdaaGreatDoorEyOp8
import Derived.ChangeKeysEq
namespace Ey
open Go Go.RowKit

def bkOK (P : Program) (t : TypeId) (k : BK) : Bool :=
  tyOK P t 1 false && match k, P.underlying t with
  | .b, some .bool => true
  | .i, some (.int _) => true
  | .s, some .string => true
  | _, _ => false

def fieldsFlat (P : Program) : Nat → List Field → List BK → Bool
  | _, [], [] => true
  | n, f :: fs, k :: ks => f.name != "_" && f.offset == n && bkOK P f.type k && fieldsFlat P (n + 1) fs ks
  | _, _, _ => false

def aggTyOK (P : Program) (k : EqK) (t : TypeId) : Bool :=
  match k with
  | .agg ks => !P.eqGuardType P.depth t && (match P.underlying t with
    | some (.struct fs) => !P.stoodInHeld t && fieldsFlat P 0 fs.toList ks
    | some (.array n e) => n == ks.length && !ks.isEmpty && ks.all (bkOK P e)
    | _ => false)
  | _ => false

section
variable {C : Cx} {g : Gh} {own : Own} {B : Nat} {H : Heap} {w : World} {env : Env} {a : Act} {n : Nat} {L : List Nat}

theorem bk_ty {t : TypeId} {k : BK} (h : bkOK C.P t k = true) : TyIs C.P t 1 false := by
  simp only [bkOK, Bool.and_eq_true] at h
  exact tyIs h.1

theorem eqCell_run {t : TypeId} {k : BK} (h : bkOK C.P t k = true) {x y : AV} {r : Bool} (he : eqCell k x y = some r) {u v : Value} (hx : VR C g x u) (hy : VR C g y v) (d : Nat) : (Op.equalIn (d + 1) t u v).run C.P w = .ok r w := by
  simp only [bkOK, Bool.and_eq_true] at h
  obtain ⟨_, h⟩ := h
  split at h <;> rename_i hu
  case h_4 => cases h
  all_goals
    unfold eqCell at he
    split at he <;> (first | (cases he; done) | skip) <;> (first | (rename_i hk; cases hk; done) | skip)
  · simp only [Option.some.injEq] at he
    subst he
    cases hx; cases hy
    simp [Op.equalIn, run_underlying hu]
  · split at he
    · rename_i hk
      simp only [Option.some.injEq] at he
      subst he
      cases hx; cases hy
      simp [Op.equalIn, run_underlying hu, hk]
    · cases he
  · simp only [Option.some.injEq] at he
    subst he
    obtain ⟨b1, rfl, h1⟩ := str_inv hx
    obtain ⟨b2, rfl, h2⟩ := str_inv hy
    simp only [Op.equalIn, Sem.run_bind, run_underlying hu, Result.andThen_ok, Sem.run_pure]
    congr 1
    rw [← h1, ← h2]
    obtain ⟨⟨x⟩⟩ := b1
    obtain ⟨⟨y⟩⟩ := b2
    show ((⟨x⟩ : Array UInt8) == ⟨y⟩) = (x == y)
    simp

variable {cs ds : List AV} {xs ys : Array Value}

theorem cell_part {t : TypeId} {k : BK} (h : bkOK C.P t k = true) (hl : cs.length = xs.size) (h1 : ∀ c ∈ cs, c.one = true) (hv : ∀ (i : Nat) (x : AV) (y : Value), cs[i]? = some x → xs[i]? = some y → VR C g x y) {j : Nat} {x : AV} (hx : cs[j]? = some x) :
    ∃ u, (Go.part t xs j).run C.P w = .ok u w ∧ VR C g x u :=
  part_val (bk_ty h) (cs := cs) (off := j) (by simp [part, hx]) hl h1 hv

theorem eqFields_run (hl : cs.length = xs.size) (h1 : ∀ c ∈ cs, c.one = true) (hv : ∀ (i : Nat) (x : AV) (y : Value), cs[i]? = some x → xs[i]? = some y → VR C g x y)
    (hl' : ds.length = ys.size) (h1' : ∀ c ∈ ds, c.one = true) (hv' : ∀ (i : Nat) (x : AV) (y : Value), ds[i]? = some x → ys[i]? = some y → VR C g x y) (d : Nat) {r : Bool} :
    ∀ {ks : List BK} {fs : List Field} {m : Nat}, fieldsFlat C.P m fs ks = true → eqCells ks (cs.drop m) (ds.drop m) = some r → (Op.eqFields (d + 1) xs ys fs).run C.P w = .ok r w
  | [], [], m, _, he => by
    cases hc : cs.drop m <;> cases hd : ds.drop m <;> rw [hc, hd] at he <;> simp [eqCells] at he
    subst he
    simp [Op.eqFields]
  | [], _ :: _, _, hf, _ => by simp [fieldsFlat] at hf
  | _ :: _, [], _, hf, _ => by simp [fieldsFlat] at hf
  | k :: ks, f :: fs, m, hf, he => by
    simp only [fieldsFlat, Bool.and_eq_true, bne_iff_ne, ne_eq, beq_iff_eq] at hf
    obtain ⟨⟨⟨hn, ho⟩, hb⟩, hf'⟩ := hf
    cases hc : cs.drop m with
    | nil => rw [hc] at he; simp [eqCells] at he
    | cons x cs' =>
      cases hd : ds.drop m with
      | nil => rw [hc, hd] at he; simp [eqCells] at he
      | cons y ds' =>
        have hx : cs[m]? = some x := by rw [← List.head?_drop, hc]; rfl
        have hy : ds[m]? = some y := by rw [← List.head?_drop, hd]; rfl
        have hc' : cs.drop (m + 1) = cs' := by rw [← List.drop_drop, hc]; rfl
        have hd' : ds.drop (m + 1) = ds' := by rw [← List.drop_drop, hd]; rfl
        rw [hc, hd] at he
        simp only [eqCells] at he
        obtain ⟨u, p1, p2⟩ := cell_part (w := w) hb hl h1 hv hx
        obtain ⟨v, q1, q2⟩ := cell_part (w := w) hb hl' h1' hv' hy
        cases hr : eqCell k x y with
        | none => rw [hr] at he; cases he
        | some r1 =>
          rw [hr] at he
          have hrun := eqCell_run (w := w) hb hr p2 q2 d
          simp only [Op.eqFields, if_pos hn, Sem.run_bind, ho, p1, q1, hrun, Result.andThen_ok]
          cases r1 with
          | false =>
            simp only [Option.some.injEq] at he
            subst he
            simp
          | true =>
            simp only at he
            simp only [Bool.not_true, Bool.false_eq_true, if_false]
            exact eqFields_run hl h1 hv hl' h1' hv' d hf' (by rw [hc', hd']; exact he)

theorem eqItems_run (hl : cs.length = xs.size) (h1 : ∀ c ∈ cs, c.one = true) (hv : ∀ (i : Nat) (x : AV) (y : Value), cs[i]? = some x → xs[i]? = some y → VR C g x y)
    (hl' : ds.length = ys.size) (h1' : ∀ c ∈ ds, c.one = true) (hv' : ∀ (i : Nat) (x : AV) (y : Value), ds[i]? = some x → ys[i]? = some y → VR C g x y) (d : Nat) {e : TypeId} {r : Bool} :
    ∀ {ks : List BK} {m : Nat}, ks.all (bkOK C.P e) = true → eqCells ks (cs.drop m) (ds.drop m) = some r → (Op.eqItems (d + 1) e 1 xs ys ((List.range ks.length).map (· + m))).run C.P w = .ok r w
  | [], m, _, he => by
    cases hc : cs.drop m <;> cases hd : ds.drop m <;> rw [hc, hd] at he <;> simp [eqCells] at he
    subst he
    simp [Op.eqItems]
  | k :: ks, m, hf, he => by
    simp only [List.all_cons, Bool.and_eq_true] at hf
    cases hc : cs.drop m with
    | nil => rw [hc] at he; simp [eqCells] at he
    | cons x cs' =>
      cases hd : ds.drop m with
      | nil => rw [hc, hd] at he; simp [eqCells] at he
      | cons y ds' =>
        have hx : cs[m]? = some x := by rw [← List.head?_drop, hc]; rfl
        have hy : ds[m]? = some y := by rw [← List.head?_drop, hd]; rfl
        have hc' : cs.drop (m + 1) = cs' := by rw [← List.drop_drop, hc]; rfl
        have hd' : ds.drop (m + 1) = ds' := by rw [← List.drop_drop, hd]; rfl
        rw [hc, hd] at he
        simp only [eqCells] at he
        obtain ⟨u, p1, p2⟩ := cell_part (w := w) hf.1 hl h1 hv hx
        obtain ⟨v, q1, q2⟩ := cell_part (w := w) hf.1 hl' h1' hv' hy
        have hrange : (List.range (k :: ks).length).map (· + m) = m :: (List.range ks.length).map (· + (m + 1)) := by
          rw [List.length_cons, List.range_succ_eq_map]
          simp only [List.map_cons, List.map_map, Nat.zero_add]
          congr 1
          refine List.map_congr_left fun x _ => ?_
          simp only [Function.comp]
          omega
        rw [hrange]
        cases hr : eqCell k x y with
        | none => rw [hr] at he; cases he
        | some r1 =>
          rw [hr] at he
          have hrun := eqCell_run (w := w) hf.1 hr p2 q2 d
          simp only [Op.eqItems, Nat.mul_one, Sem.run_bind, p1, q1, hrun, Result.andThen_ok]
          cases r1 with
          | false =>
            simp only [Option.some.injEq] at he
            subst he
            simp
          | true =>
            simp only at he
            simp only [Bool.not_true, Bool.false_eq_true, if_false]
            exact eqItems_run hl h1 hv hl' h1' hv' d hf.2 (by rw [hc', hd']; exact he)

theorem agg_sim {k : EqK} {p q : AV} {r : Bool} (hz : eqAV k p q = some r) {u v : Value} (hp : VR C g p u) (hq : VR C g q v) {t : TypeId} {x y : Operand} (ht : aggTyOK C.P k t = true) (neg : Bool) :
    (do eqGuard (if neg then .neq else .eql) t x y u v; Go.binOp (if neg then .neq else .eql) t u v : Sem Value).run C.P w = .ok (.bool (r != neg)) w := by
  unfold aggTyOK at ht
  split at ht
  · rename_i ks
    simp only [Bool.and_eq_true, Bool.not_eq_true'] at ht
    obtain ⟨hg, ht⟩ := ht
    unfold eqAV at hz
    split at hz <;> (first | (cases hz; done) | skip) <;> (first | (rename_i hk; cases hk; done) | skip)
    rename_i ks' cs ds hk
    cases hk
    split at hz
    · rename_i hlen
      obtain ⟨xs, rfl, hl, h1, hv⟩ := agg_inv hp
      obtain ⟨ys, rfl, hl', h1', hv'⟩ := agg_inv hq
      refine eq_of_equal (fun op => by cases op <;> simp [eqGuard, hg]) ?_ rfl rfl neg
      show (Op.equalIn (9999 + 1) t (.agg xs) (.agg ys)).run C.P w = .ok r w
      split at ht
      · rename_i fs hu
        simp only [Bool.and_eq_true, Bool.not_eq_true'] at ht
        have hfs : C.P.fieldsOf t = fs := by simp [Program.fieldsOf, hu]
        rw [run_equalIn_struct w 9999 t xs ys (by rw [hfs]; exact hu) ht.1, hfs]
        exact eqFields_run hl h1 hv hl' h1' hv' 9998 ht.2 (by simpa using hz)
      · rename_i m e hu
        simp only [Bool.and_eq_true, beq_iff_eq, Bool.not_eq_true', List.isEmpty_eq_false_iff] at ht
        obtain ⟨⟨rfl, hne⟩, hall⟩ := ht
        have hb : ∃ q, bkOK C.P e q = true := by
          cases ks with
          | nil => exact absurd rfl hne
          | cons q qs => exact ⟨q, by simp only [List.all_cons, Bool.and_eq_true] at hall; exact hall.1⟩
        obtain ⟨q, hb⟩ := hb
        obtain ⟨i, hi, hsz⟩ := (bk_ty hb).info
        have hcell : C.P.cellsOf e = 1 := by simp [Program.cellsOf, hi, hsz]
        rw [run_equalIn_array w 9999 xs ys hu hi, hcell]
        have := eqItems_run (w := w) (m := 0) hl h1 hv hl' h1' hv' 9998 hall (by simpa using hz)
        simpa using this
      · cases ht
    · cases hz
  · cases ht
end
end Ey
