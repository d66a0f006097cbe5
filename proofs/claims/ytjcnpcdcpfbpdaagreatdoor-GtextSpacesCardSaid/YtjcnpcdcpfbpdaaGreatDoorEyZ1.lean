/- Values of the small language in a form that the kernel runs fast: numbers shifted to natural ones, lists of numbers packed into one number; what they stand for. -/
import Derived.Test.YtjcnpcdcpfbpdaaGreatDoorEyLim
namespace Ey
open Go (IntKind FloatKind BinOp UnOp)

inductive V where
  | i (n : Nat) | b (x : Bool) | u (k n : Nat) | s (l n : Nat) | x (v : AV)
  | li (nl : Bool) (c : V) | c0 | ms (id ver lo len : Nat) | im (v : V) | np | pt (id off : Nat) | ap (id ver i off : Nat)
  | fn (f : Nat) (c : V) | nf | fc (t : Nat) (v : V) | nc | ag (c : V) | tu (c : V)
  | nil | one (h t : V) | run (k l n : Nat) (t : V)
  | wh | no | un | lv (c : V) | lp (s o : Nat)
  deriving Inhabited

/-- kinds of numbers without a sign -/
def kk (k : Nat) : IntKind := match k with
  | 0 => .u8
  | 1 => .u16
  | 2 => .u32
  | _ => .u64
/-- a plain value of a kind: 0 whole numbers (shifted), 1 truth values, 2.. numbers without a sign -/
def scal (k d : Nat) : AV := match k with
  | 0 => .int .i64 ((d : Int) - 9223372036854775808)
  | 1 => .bool (Nat.ble 1 d)
  | k + 2 => .int (kk k) d

def digs (k : Nat) : Nat → Nat → List AV
  | 0, _ => []
  | l + 1, n => scal k (n % 18446744073709551616) :: digs k l (n / 18446744073709551616)
def byts : Nat → Nat → List UInt8
  | 0, _ => []
  | l + 1, n => UInt8.ofNat (n % 256) :: byts l (n / 256)

mutual
/-- the value that is meant -/
def V.av : V → AV
  | .i n => .int .i64 ((n : Int) - 9223372036854775808)
  | .b y => .bool y
  | .u k n => .int (kk k) n
  | .s l n => .str (byts l n)
  | .x v => v
  | .li nl c => .list nl c.cl
  | .c0 => .cap0
  | .ms id ver lo len => .ms id ver lo len
  | .im v => .imm v.av
  | .np => .nilp
  | .pt id off => .ptr id off
  | .ap id ver j off => .ap id ver j off
  | .fn f c => .fn f c.cl
  | .nf => .nilfn
  | .fc t v => .iface t v.av
  | .nc => .niliface
  | .ag c => .agg c.cl
  | .tu c => .tup c.cl
  | _ => .undef
def V.cl : V → List AV
  | .one h t => h.av :: t.cl
  | .run k l n t => digs k l n ++ t.cl
  | _ => []
end

def V.sl : V → Sl
  | .no => .no
  | .un => .un
  | .lv c => .lv c.cl
  | .lp t o => .lp t o
  | v => .v v.av

/-- what is known of a slot -/
def V.den (v : V) (r : Sl) : Prop := match v with
  | .wh => True
  | v => r = v.sl

/-! ### packed numbers -/
theorem digs_length (k : Nat) : ∀ l n, (digs k l n).length = l
  | 0, _ => rfl
  | l + 1, n => by simp only [digs, List.length_cons, digs_length k l]
theorem byts_length : ∀ l n, (byts l n).length = l
  | 0, _ => rfl
  | l + 1, n => by simp only [byts, List.length_cons, byts_length l]

noncomputable def dig (n j : Nat) : Nat := Nat.mod (Nat.shiftRight n (Nat.mul 64 j)) 18446744073709551616
theorem shr_pow (n j : Nat) : Nat.shiftRight n (Nat.mul 64 j) = n / 18446744073709551616 ^ j := by
  show n >>> (64 * j) = _
  rw [Nat.shiftRight_eq_div_pow, Nat.pow_mul]
theorem dig_zero (n : Nat) : dig n 0 = n % 18446744073709551616 := by
  show Nat.shiftRight n (Nat.mul 64 0) % 18446744073709551616 = _
  rw [shr_pow]; simp
theorem dig_succ (n j : Nat) : dig n (j + 1) = dig (n / 18446744073709551616) j := by
  show Nat.shiftRight n (Nat.mul 64 (j + 1)) % _ = Nat.shiftRight _ (Nat.mul 64 j) % _
  rw [shr_pow, shr_pow, Nat.pow_succ, Nat.mul_comm, Nat.div_div_eq_div_mul]
theorem dig_lt (n j : Nat) : dig n j < 18446744073709551616 := Nat.mod_lt _ (by decide)

theorem digs_get (k : Nat) : ∀ l n j, (digs k l n)[j]? = if j < l then some (scal k (dig n j)) else none
  | 0, n, j => by simp [digs]
  | l + 1, n, 0 => by simp [digs, dig_zero]
  | l + 1, n, j + 1 => by
    simp only [digs, List.getElem?_cons_succ, digs_get k l, dig_succ]
    by_cases h : j < l
    · rw [if_pos h, if_pos (by omega)]
    · rw [if_neg h, if_neg (by omega)]

theorem digs_drop (k : Nat) : ∀ m l n, (digs k l n).drop m = digs k (l - m) (Nat.shiftRight n (Nat.mul 64 m))
  | 0, l, n => by rw [shr_pow]; simp
  | m + 1, 0, n => by simp [digs]
  | m + 1, l + 1, n => by
    simp only [digs, List.drop_succ_cons]
    rw [digs_drop k m l, shr_pow, shr_pow, Nat.pow_succ, Nat.mul_comm (18446744073709551616 ^ m), Nat.div_div_eq_div_mul]
    congr 1
    omega
theorem digs_take (k : Nat) : ∀ m l n, (digs k l n).take m = digs k (min m l) n
  | 0, l, n => by simp [digs]
  | m + 1, 0, n => by simp [digs]
  | m + 1, l + 1, n => by
    simp only [digs, List.take_succ_cons, digs_take k m l]
    rw [show min (m + 1) (l + 1) = min m l + 1 from by omega]
    rfl
theorem digs_app (k : Nat) : ∀ l n m p, digs k l n ++ digs k m p = digs k (l + m) (n % 18446744073709551616 ^ l + p * 18446744073709551616 ^ l)
  | 0, n, m, p => by simp [digs, Nat.mod_one]
  | l + 1, n, m, p => by
    rw [show l + 1 + m = (l + m) + 1 from by omega]
    simp only [digs, List.cons_append]
    rw [digs_app k l]
    have hW : 0 < 18446744073709551616 ^ l := Nat.pow_pos (by decide)
    have e1 : n % 18446744073709551616 ^ (l + 1) = n % 18446744073709551616 + 18446744073709551616 * (n / 18446744073709551616 % 18446744073709551616 ^ l) := by
      rw [Nat.pow_succ, Nat.mul_comm, Nat.mod_mul]
    have e2 : p * 18446744073709551616 ^ (l + 1) = 18446744073709551616 * (p * 18446744073709551616 ^ l) := by
      rw [Nat.pow_succ]; simp only [Nat.mul_comm, Nat.mul_left_comm]
    have e3 : n % 18446744073709551616 ^ (l + 1) + p * 18446744073709551616 ^ (l + 1) = n % 18446744073709551616 + 18446744073709551616 * (n / 18446744073709551616 % 18446744073709551616 ^ l + p * 18446744073709551616 ^ l) := by
      rw [e1, e2, Nat.mul_add, Nat.add_assoc]
    rw [e3, Nat.add_mul_mod_self_left, Nat.add_mul_div_left _ _ (by decide), Nat.mod_mod]
    rw [Nat.div_eq_of_lt (Nat.mod_lt n (by decide)), Nat.zero_add]

/-- a digit put in -/
noncomputable def digSet (n j d : Nat) : Nat := Nat.sub (Nat.add n (Nat.shiftLeft d (Nat.mul 64 j))) (Nat.shiftLeft (dig n j) (Nat.mul 64 j))
theorem shl_pow (n j : Nat) : Nat.shiftLeft n (Nat.mul 64 j) = n * 18446744073709551616 ^ j := by
  show n <<< (64 * j) = _
  rw [Nat.shiftLeft_eq, Nat.pow_mul]
theorem digSet_eq (n j d : Nat) : digSet n j d = n + d * 18446744073709551616 ^ j - dig n j * 18446744073709551616 ^ j := by
  simp only [digSet, shl_pow]; rfl
theorem dig_le (n j : Nat) : dig n j * 18446744073709551616 ^ j ≤ n := by
  show Nat.shiftRight n (Nat.mul 64 j) % _ * _ ≤ n
  rw [shr_pow]
  calc n / 18446744073709551616 ^ j % 18446744073709551616 * 18446744073709551616 ^ j ≤ n / 18446744073709551616 ^ j * 18446744073709551616 ^ j := Nat.mul_le_mul_right _ (Nat.mod_le _ _)
    _ ≤ n := Nat.div_mul_le_self _ _
theorem digs_set (k : Nat) : ∀ l n j d, d < 18446744073709551616 → (digs k l n).set j (scal k d) = digs k l (digSet n j d)
  | 0, n, j, d, _ => by simp [digs]
  | l + 1, n, 0, d, hd => by
    have h := Nat.div_add_mod n 18446744073709551616
    have e : digSet n 0 d = 18446744073709551616 * (n / 18446744073709551616) + d := by
      rw [digSet_eq, dig_zero]; simp only [Nat.pow_zero, Nat.mul_one]; omega
    simp only [digs, List.set_cons_zero]
    rw [e, Nat.mul_add_mod, Nat.mod_eq_of_lt hd, Nat.mul_add_div (by decide), Nat.div_eq_of_lt hd, Nat.add_zero]
  | l + 1, n, j + 1, d, hd => by
    have h := Nat.div_add_mod n 18446744073709551616
    have hle := dig_le (n / 18446744073709551616) j
    have e : digSet n (j + 1) d = 18446744073709551616 * digSet (n / 18446744073709551616) j d + n % 18446744073709551616 := by
      rw [digSet_eq, digSet_eq, dig_succ, Nat.pow_succ]
      generalize dig (n / 18446744073709551616) j = g at *
      generalize 18446744073709551616 ^ j = P at *
      have e1 : d * (P * 18446744073709551616) = 18446744073709551616 * (d * P) := by rw [← Nat.mul_assoc, Nat.mul_comm]
      have e2 : g * (P * 18446744073709551616) = 18446744073709551616 * (g * P) := by rw [← Nat.mul_assoc, Nat.mul_comm]
      rw [e1, e2]
      generalize d * P = a at *
      generalize g * P = c at *
      omega
    simp only [digs, List.set_cons_succ, digs_set k l _ j d hd]
    rw [e, Nat.mul_add_mod, Nat.mod_mod, Nat.mul_add_div (by decide), Nat.div_eq_of_lt (Nat.mod_lt n (by decide)), Nat.add_zero]

/-- alike digits -/
noncomputable def repD (d : Nat) : Nat → Nat := @Nat.rec (fun _ => Nat) 0 (fun _ ih => Nat.add (Nat.mul ih 18446744073709551616) d)
theorem digs_rep (k d : Nat) (hd : d < 18446744073709551616) : ∀ m, List.replicate m (scal k d) = digs k m (repD d m)
  | 0 => rfl
  | m + 1 => by
    have e : repD d (m + 1) = 18446744073709551616 * repD d m + d := by
      show repD d m * 18446744073709551616 + d = _
      rw [Nat.mul_comm]
    simp only [List.replicate_succ, digs, digs_rep k d hd m]
    rw [e, Nat.mul_add_mod, Nat.mod_eq_of_lt hd, Nat.mul_add_div (by decide), Nat.div_eq_of_lt hd, Nat.add_zero]

/-! ### lists of cells -/
section
variable {α : Type}
noncomputable def clRec (z : α) (f1 : V → V → α → α) (f2 : Nat → Nat → Nat → V → α → α) : V → α := @V.rec (fun _ => α)
  (fun _ => z) (fun _ => z) (fun _ _ => z) (fun _ _ => z) (fun _ => z) (fun _ _ _ => z) z (fun _ _ _ _ => z) (fun _ _ => z) z (fun _ _ => z) (fun _ _ _ _ => z)
  (fun _ _ _ => z) z (fun _ _ _ => z) z (fun _ _ => z) (fun _ _ => z) z (fun h t _ iht => f1 h t iht) (fun k l n t iht => f2 k l n t iht) z z z (fun _ _ => z) (fun _ _ => z)
end
/-- lists of cells: one, a run, none -/
theorem cl_cases {P : V → Prop} (h1 : ∀ h t, P t → P (.one h t)) (h2 : ∀ k l n t, P t → P (.run k l n t)) (h0 : ∀ v, (∀ {α : Type} (z : α) f1 f2, clRec z f1 f2 v = z) → v.cl = [] → P v) : ∀ v, P v := by
  intro v
  induction v with
  | one h t _ iht => exact h1 h t iht
  | run k l n t iht => exact h2 k l n t iht
  | _ => exact h0 _ (fun _ _ _ => rfl) rfl

noncomputable def lenC : V → Nat := clRec 0 (fun _ _ ih => Nat.succ ih) (fun _ l _ _ ih => Nat.add l ih)
theorem lenC_eq (c : V) : lenC c = c.cl.length := by
  refine cl_cases (P := fun c => lenC c = c.cl.length) (fun h t ih => ?_) (fun k l n t ih => ?_) (fun v h0 h1 => ?_) c
  · show Nat.succ (lenC t) = _; rw [ih]; rfl
  · show l + lenC t = _; rw [ih]; simp [V.cl, digs_length]
  · rw [h1]; exact h0 _ _ _

section
variable {α : Type}
noncomputable def ifB (c : Bool) (d x : α) : α := @Bool.rec (fun _ => α) d x c
theorem ifB_beq (a b : Nat) (d x : α) : ifB (Nat.beq a b) d x = if a = b then x else d := by
  cases h : Nat.beq a b with
  | true => rw [if_pos (Nat.eq_of_beq_eq_true h)]; rfl
  | false => rw [if_neg (Nat.ne_of_beq_eq_false h)]; rfl
theorem ifB_ble (a b : Nat) (d x : α) : ifB (Nat.ble a b) d x = if a ≤ b then x else d := by
  cases h : Nat.ble a b with
  | true => rw [if_pos (Nat.le_of_ble_eq_true h)]; rfl
  | false => rw [if_neg (fun h2 => by rw [Nat.ble_eq_true_of_le h2] at h; cases h)]; rfl

/-- a plain value out of a number -/
noncomputable def mkS (k d : Nat) : V := @Nat.rec (fun _ => V) (.i d) (fun k1 _ => @Nat.rec (fun _ => V) (.b (Nat.ble 1 d)) (fun k2 _ => .u k2 d) k1) k
theorem mkS_sl (k d : Nat) : (mkS k d).av = scal k d ∧ (mkS k d).sl = .v (scal k d) := by
  match k with
  | 0 => exact ⟨rfl, rfl⟩
  | 1 => exact ⟨rfl, rfl⟩
  | k + 2 => exact ⟨rfl, rfl⟩

noncomputable def nthC (d : α) (f : V → α) : V → Nat → α := clRec (fun _ => d) (fun h _ ih j => @Nat.rec (fun _ => α) (f h) (fun p _ => ih p) j)
  (fun k l n _ ih j => ifB (Nat.ble (Nat.succ j) l) (ih (Nat.sub j l)) (ifB (Nat.ble (dig n j) 18446744073709551616) d (f (mkS k (dig n j)))))
/-- what is asked of a cell that is found -/
theorem nthC_ok {d : α} {f : V → α} {P : α → Prop} (hd : P d) (c : V) : ∀ j, (∀ v, c.cl[j]? = some v.av → P (f v)) → P (nthC d f c j) := by
  refine cl_cases (P := fun c => ∀ j, (∀ v, c.cl[j]? = some v.av → P (f v)) → P (nthC d f c j)) (fun h t ih j hj => ?_) (fun k l n t ih j hj => ?_) (fun v h0 h1 j hj => ?_) c
  · cases j with
    | zero => exact hj h rfl
    | succ j => exact ih j fun v hv => hj v (by simpa [V.cl] using hv)
  · show P (ifB (Nat.ble (Nat.succ j) l) (nthC d f t (Nat.sub j l)) (ifB (Nat.ble (dig n j) 18446744073709551616) d (f (mkS k (dig n j)))))
    rw [ifB_ble, ifB_ble]
    by_cases h : Nat.succ j ≤ l
    · rw [if_pos h]
      split
      · refine hj _ ?_
        simp only [V.cl]
        rw [List.getElem?_append_left (by rw [digs_length]; exact h), digs_get, if_pos (show j < l from h), (mkS_sl k _).1]
      · exact hd
    · rw [if_neg h]
      refine ih _ fun v hv => hj v ?_
      simp only [V.cl]
      rw [List.getElem?_append_right (by rw [digs_length]; exact Nat.not_lt.1 h), digs_length]
      exact hv
  · have : nthC d f v j = d := congrFun (h0 (fun _ => d) _ _) j
    rw [this]; exact hd
end

noncomputable def dropC : V → Nat → V := clRec (fun _ => .nil) (fun h t ih j => @Nat.rec (fun _ => V) (.one h t) (fun p _ => ih p) j)
  (fun k l n t ih j => ifB (Nat.ble (Nat.succ j) l) (ih (Nat.sub j l)) (.run k (Nat.sub l j) (Nat.shiftRight n (Nat.mul 64 j)) t))
theorem dropC_eq (c : V) : ∀ j, (dropC c j).cl = c.cl.drop j := by
  refine cl_cases (P := fun c => ∀ j, (dropC c j).cl = c.cl.drop j) (fun h t ih j => ?_) (fun k l n t ih j => ?_) (fun v h0 h1 j => ?_) c
  · cases j with
    | zero => rfl
    | succ j => show (dropC t j).cl = _; rw [ih]; rfl
  · show (ifB (Nat.ble (Nat.succ j) l) (dropC t (Nat.sub j l)) (V.run k (Nat.sub l j) (Nat.shiftRight n (Nat.mul 64 j)) t)).cl = _
    rw [ifB_ble]
    by_cases h : Nat.succ j ≤ l
    · rw [if_pos h]
      simp only [V.cl]
      rw [List.drop_append_of_le_length (by rw [digs_length]; omega), digs_drop]; rfl
    · rw [if_neg h, ih]
      simp only [V.cl]
      have e : (digs k l n).drop j = [] := List.drop_eq_nil_of_le (by rw [digs_length]; omega)
      rw [List.drop_append, e, digs_length, List.nil_append]; rfl
  · have : dropC v j = .nil := congrFun (h0 (fun _ => V.nil) _ _) j
    rw [this, h1]; simp [V.cl]

noncomputable def takeC : V → Nat → V := clRec (fun _ => .nil) (fun h _ ih j => @Nat.rec (fun _ => V) .nil (fun p _ => .one h (ih p)) j)
  (fun k l n _ ih j => ifB (Nat.ble j l) (.run k l n (ih (Nat.sub j l))) (.run k j n .nil))
theorem takeC_eq (c : V) : ∀ j, (takeC c j).cl = c.cl.take j := by
  refine cl_cases (P := fun c => ∀ j, (takeC c j).cl = c.cl.take j) (fun h t ih j => ?_) (fun k l n t ih j => ?_) (fun v h0 h1 j => ?_) c
  · cases j with
    | zero => rfl
    | succ j => show h.av :: (takeC t j).cl = _; rw [ih]; rfl
  · show (ifB (Nat.ble j l) (V.run k l n (takeC t (Nat.sub j l))) (V.run k j n .nil)).cl = _
    rw [ifB_ble]
    by_cases h : j ≤ l
    · rw [if_pos h]
      simp only [V.cl, List.append_nil]
      rw [List.take_append_of_le_length (by rw [digs_length]; omega), digs_take, Nat.min_eq_left h]
    · rw [if_neg h]
      simp only [V.cl]
      have e : (digs k l n).take j = digs k l n := List.take_of_length_le (by rw [digs_length]; omega)
      rw [ih, List.take_append, e, digs_length]; rfl
  · have : takeC v j = .nil := congrFun (h0 (fun _ => V.nil) _ _) j
    rw [this, h1]; simp [V.cl]

/-- two runs become one -/
noncomputable def merR (k l n : Nat) (c : V) : V := clRec (V.run k l n .nil) (fun _ _ _ => .run k l n c)
  (fun k' l' n' t _ => ifB (Nat.beq k k') (.run k l n c) (.run k (Nat.add l l') (Nat.add (Nat.mod n (Nat.shiftLeft 1 (Nat.mul 64 l))) (Nat.shiftLeft n' (Nat.mul 64 l))) t)) c
theorem merR_eq (k l n : Nat) (c : V) : (merR k l n c).cl = digs k l n ++ c.cl := by
  refine cl_cases (P := fun c => (merR k l n c).cl = digs k l n ++ c.cl) (fun h t ih => rfl) (fun k' l' n' t ih => ?_) (fun v h0 h1 => ?_) c
  · show (ifB (Nat.beq k k') (V.run k l n (.run k' l' n' t)) (V.run k (Nat.add l l') (Nat.add (Nat.mod n (Nat.shiftLeft 1 (Nat.mul 64 l))) (Nat.shiftLeft n' (Nat.mul 64 l))) t)).cl = _
    rw [ifB_beq]
    split
    · rename_i h
      subst h
      simp only [V.cl, shl_pow, Nat.one_mul]
      rw [← List.append_assoc, digs_app]; rfl
    · rfl
  · rw [h1]
    have : merR k l n v = V.run k l n .nil := h0 _ _ _
    rw [this]; simp [V.cl]

noncomputable def appC (d : V) : V → V := clRec d (fun h _ ih => .one h ih) (fun k l n t ih => clRec (merR k l n d) (fun _ _ _ => .run k l n ih) (fun _ _ _ _ _ => .run k l n ih) t)
theorem appC_eq (d c : V) : (appC d c).cl = c.cl ++ d.cl := by
  refine cl_cases (P := fun c => (appC d c).cl = c.cl ++ d.cl) (fun h t ih => ?_) (fun k l n t ih => ?_) (fun v h0 h1 => ?_) c
  · show h.av :: (appC d t).cl = _; rw [ih]; rfl
  · have key : (V.run k l n (appC d t)).cl = (V.run k l n t).cl ++ d.cl := by
      simp only [V.cl, ih, List.append_assoc]
    show (clRec (merR k l n d) (fun _ _ _ => V.run k l n (appC d t)) (fun _ _ _ _ _ => V.run k l n (appC d t)) t).cl = _
    revert key ih
    refine cl_cases (P := fun t => (appC d t).cl = t.cl ++ d.cl → (V.run k l n (appC d t)).cl = (V.run k l n t).cl ++ d.cl → (clRec (merR k l n d) (fun _ _ _ => V.run k l n (appC d t)) (fun _ _ _ _ _ => V.run k l n (appC d t)) t).cl = (V.run k l n t).cl ++ d.cl) (fun h t _ _ key => key) (fun k' l' n' t _ _ key => key) (fun v h0 h1 _ _ => ?_) t
    rw [h0, merR_eq]
    simp only [V.cl, h1, List.append_nil]
  · rw [h1]
    have : appC d v = d := h0 _ _ _
    rw [this]; rfl

section
variable {α : Type}
/-- a plain value: its kind, its number -/
noncomputable def scK (v : V) (d : α) (f : Nat → Nat → α) : α := @V.rec (fun _ => α)
  (fun n => f 0 n) (fun x => @Bool.rec (fun _ => α) (f 1 0) (f 1 1) x) (fun k n => f (Nat.succ (Nat.succ k)) n) (fun _ _ => d) (fun _ => d) (fun _ _ _ => d) d (fun _ _ _ _ => d) (fun _ _ => d) d (fun _ _ => d) (fun _ _ _ _ => d)
  (fun _ _ _ => d) d (fun _ _ _ => d) d (fun _ _ => d) (fun _ _ => d) d (fun _ _ _ _ => d) (fun _ _ _ _ _ => d) d d d (fun _ _ => d) (fun _ _ => d) v
theorem scK_ok {P : α → Prop} {v : V} {d : α} {f : Nat → Nat → α} (hd : P d) (hf : ∀ k n, v.av = scal k n → v.sl = .v (scal k n) → P (f k n)) : P (scK v d f) := by
  cases v with
  | i n => exact hf 0 n rfl rfl
  | b x => cases x; exact hf 1 0 rfl rfl; exact hf 1 1 rfl rfl
  | u k n => exact hf (k + 2) n rfl rfl
  | _ => exact hd
end

/-- a list of one cell -/
noncomputable def oneC (v : V) : V := scK v (.one v .nil) fun k n => ifB (Nat.ble n 18446744073709551615) (.one v .nil) (.run k 1 n .nil)
theorem oneC_eq (v : V) : (oneC v).cl = [v.av] := by
  refine scK_ok (P := fun (c : V) => c.cl = [v.av]) rfl fun k n hv _ => ?_
  rw [ifB_ble]
  split
  · simp only [V.cl, digs, List.append_nil]
    rw [Nat.mod_eq_of_lt (by omega), hv]
  · rfl

/-- a cell overwritten -/
noncomputable def setC (v : V) : V → Nat → V := clRec (fun _ => .nil) (fun h t ih j => @Nat.rec (fun _ => V) (.one v t) (fun p _ => .one h (ih p)) j)
  (fun k l n t ih j => ifB (Nat.ble (Nat.succ j) l) (.run k l n (ih (Nat.sub j l)))
    (scK v (appC (.one v (dropC (.run k l n t) (Nat.succ j))) (.run k j n .nil)) fun k' d => ifB (Nat.beq k k') (appC (.one v (dropC (.run k l n t) (Nat.succ j))) (.run k j n .nil))
      (ifB (Nat.ble d 18446744073709551615) (appC (.one v (dropC (.run k l n t) (Nat.succ j))) (.run k j n .nil)) (.run k l (digSet n j d) t))))
theorem setC_eq (v c : V) : ∀ j, (setC v c j).cl = c.cl.set j v.av := by
  refine cl_cases (P := fun c => ∀ j, (setC v c j).cl = c.cl.set j v.av) (fun h t ih j => ?_) (fun k l n t ih j => ?_) (fun w h0 h1 j => ?_) c
  · cases j with
    | zero => rfl
    | succ j => show h.av :: (setC v t j).cl = _; rw [ih]; rfl
  · have slow : j < l → (appC (.one v (dropC (.run k l n t) (Nat.succ j))) (.run k j n .nil)).cl = (V.run k l n t).cl.set j v.av := fun h => by
      rw [appC_eq]
      simp only [V.cl, List.append_nil, dropC_eq]
      have hl : j < (digs k l n ++ t.cl).length := by simp [digs_length]; omega
      rw [List.set_eq_take_append_cons_drop, if_pos hl, List.take_append_of_le_length (by rw [digs_length]; omega), digs_take, Nat.min_eq_left (by omega)]
    show (ifB (Nat.ble (Nat.succ j) l) (V.run k l n (setC v t (Nat.sub j l))) (scK v (appC (.one v (dropC (.run k l n t) (Nat.succ j))) (.run k j n .nil)) fun k' d => ifB (Nat.beq k k') (appC (.one v (dropC (.run k l n t) (Nat.succ j))) (.run k j n .nil))
      (ifB (Nat.ble d 18446744073709551615) (appC (.one v (dropC (.run k l n t) (Nat.succ j))) (.run k j n .nil)) (.run k l (digSet n j d) t)))).cl = _
    rw [ifB_ble]
    by_cases h : Nat.succ j ≤ l
    · rw [if_pos h]
      refine scK_ok (P := fun (c : V) => c.cl = _) (slow h) fun k' d hv _ => ?_
      rw [ifB_beq, ifB_ble]
      split
      · rename_i hk
        subst hk
        split
        · rename_i hd
          simp only [V.cl]
          rw [← digs_set k l n j d (by omega), hv, List.set_append_left _ _ (by rw [digs_length]; exact h)]
        · exact slow h
      · exact slow h
    · rw [if_neg h]
      simp only [V.cl, ih]
      rw [List.set_append_right _ _ (by rw [digs_length]; omega), digs_length]; rfl
  · have : setC v w j = .nil := congrFun (h0 (fun _ => V.nil) _ _) j
    rw [this, h1]; simp [V.cl]

/-- so many alike cells -/
noncomputable def repC (m : Nat) (v : V) : V := scK v (@Nat.rec (fun _ => V) .nil (fun _ ih => .one v ih) m) fun k d => ifB (Nat.ble d 18446744073709551615) (@Nat.rec (fun _ => V) .nil (fun _ ih => .one v ih) m) (.run k m (repD d m) .nil)
theorem repC_eq (m : Nat) (v : V) : (repC m v).cl = List.replicate m v.av := by
  have slow : ∀ m, (@Nat.rec (fun _ => V) .nil (fun _ ih => .one v ih) m : V).cl = List.replicate m v.av := fun m => by
    induction m with
    | zero => rfl
    | succ m ih => simp only [V.cl, ih, List.replicate_succ]
  refine scK_ok (P := fun (c : V) => c.cl = _) (slow m) fun k d hv _ => ?_
  rw [ifB_ble]
  split
  · rw [hv, digs_rep k d (by omega)]; simp [V.cl]
  · exact slow m
end Ey
