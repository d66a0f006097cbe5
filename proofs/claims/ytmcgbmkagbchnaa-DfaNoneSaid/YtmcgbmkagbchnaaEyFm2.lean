/- The small language, run in a way that the kernel runs fast: operations on values. -/
import Derived.Test.YtmcgbmkagbchnaaEyFm1
namespace Ey
open Go (IntKind FloatKind BinOp UnOp)

section
variable {α : Type}

noncomputable def slowK (op : BinOp) (a b : AV) (d : α) (k : AV → α) : α := @Option.rec AV (fun _ => α) d k (binAV op a b)
theorem slowK_eq (op : BinOp) (a b : AV) (d : α) (k : AV → α) : slowK op a b d k = match binAV op a b with | some r => k r | none => d := by
  simp only [slowK]; cases binAV op a b <;> rfl

/-- two numbers of one kind -/
noncomputable def int2K (op : BinOp) (a b : AV) (d : α) (k : AV → α) (f : IntKind → Int → Int → α) : α :=
  intK a (slowK op a b d k) fun ka m => intK b (slowK op a b d k) fun kb n => @Bool.rec (fun _ => α) (slowK op a b d k) (f ka m n) (Nat.beq (kcode ka) (kcode kb))

theorem int2K_eq {op : BinOp} {a b : AV} {d : α} {k : AV → α} {f : IntKind → Int → Int → α} (h : ∀ q m n, f q m n = match binAV op (.int q m) (.int q n) with | some r => k r | none => d) :
    int2K op a b d k f = match binAV op a b with | some r => k r | none => d := by
  simp only [int2K, intK_eq]
  split
  · rename_i ka m
    split
    · rename_i kb n
      cases hk : Nat.beq (kcode ka) (kcode kb) with
      | true => obtain rfl := kcode_inj hk; exact h ka m n
      | false => exact slowK_eq _ _ _ _ _
    · exact slowK_eq _ _ _ _ _
  · exact slowK_eq _ _ _ _ _

noncomputable def bAdd (a b : AV) (d : α) (k : AV → α) : α := int2K .add a b d k fun q m n => wrapK q (iadd m n) fun r => k (.int q r)
noncomputable def bSub (a b : AV) (d : α) (k : AV → α) : α := int2K .sub a b d k fun q m n => wrapK q (isub m n) fun r => k (.int q r)
noncomputable def bMul (a b : AV) (d : α) (k : AV → α) : α := int2K .mul a b d k fun q m n => wrapK q (imul m n) fun r => k (.int q r)
noncomputable def cmpK (op : BinOp) (c : Int → Int → Bool) (a b : AV) (d : α) (k : AV → α) : α := int2K op a b d k fun _ m n => boolK (c m n) fun r => k (.bool r)
noncomputable def bLss (a b : AV) (d : α) (k : AV → α) : α := cmpK .lss iblt a b d k
noncomputable def bLeq (a b : AV) (d : α) (k : AV → α) : α := cmpK .leq ible a b d k
noncomputable def bGtr (a b : AV) (d : α) (k : AV → α) : α := cmpK .gtr (fun m n => iblt n m) a b d k
noncomputable def bGeq (a b : AV) (d : α) (k : AV → α) : α := cmpK .geq (fun m n => ible n m) a b d k
noncomputable def bEql (a b : AV) (d : α) (k : AV → α) : α := cmpK .eql ibeq a b d k
noncomputable def bNeq (a b : AV) (d : α) (k : AV → α) : α := cmpK .neq (fun m n => notF (ibeq m n)) a b d k

/-- two numbers from 0 on -/
noncomputable def nat2K (op : BinOp) (d : α) (k : AV → α) (q : IntKind) (m n : Int) (f : Nat → Nat → α) : α :=
  @Int.rec (fun _ => α) (fun x => @Int.rec (fun _ => α) (fun y => f x y) (fun _ => slowK op (.int q m) (.int q n) d k) n) (fun _ => slowK op (.int q m) (.int q n) d k) m
theorem nat2K_eq {op : BinOp} {d : α} {k : AV → α} {q : IntKind} {m n : Int} {f : Nat → Nat → α} (h : ∀ x y, f x y = match binAV op (.int q (.ofNat x)) (.int q (.ofNat y)) with | some r => k r | none => d) :
    nat2K op d k q m n f = match binAV op (.int q m) (.int q n) with | some r => k r | none => d := by
  cases m with
  | ofNat x => cases n with
    | ofNat y => exact h x y
    | negSucc y => exact slowK_eq _ _ _ _ _
  | negSucc x => exact slowK_eq _ _ _ _ _

noncomputable def bQuo (a b : AV) (d : α) (k : AV → α) : α := int2K .quo a b d k fun q m n => nat2K .quo d k q m n fun x y => @Nat.rec (fun _ => α) d (fun _ _ => wrapK q (.ofNat (Nat.div x y)) fun r => k (.int q r)) y
noncomputable def bRem (a b : AV) (d : α) (k : AV → α) : α := int2K .rem a b d k fun q m n => nat2K .rem d k q m n fun x y => @Nat.rec (fun _ => α) d (fun _ _ => natK (Nat.mod x y) fun r => k (.int q (.ofNat r))) y

/-- two numbers of a kind without a sign, in its range -/
noncomputable def bitsK (op : BinOp) (f : Nat → Nat → Nat) (a b : AV) (d : α) (k : AV → α) : α := int2K op a b d k fun q m n => nat2K op d k q m n fun x y =>
  @Bool.rec (fun _ => α) (@Bool.rec (fun _ => α) (slowK op (.int q (.ofNat x)) (.int q (.ofNat y)) d k) (@Bool.rec (fun _ => α) (slowK op (.int q (.ofNat x)) (.int q (.ofNat y)) d k)
    (natK (f x y) fun r => k (.int q (.ofNat r))) (Nat.ble y (kmost q))) (Nat.ble x (kmost q))) (slowK op (.int q (.ofNat x)) (.int q (.ofNat y)) d k) (ksign q)
noncomputable def bAnd (a b : AV) (d : α) (k : AV → α) : α := bitsK .and Nat.land a b d k
noncomputable def bOr (a b : AV) (d : α) (k : AV → α) : α := bitsK .or Nat.lor a b d k
noncomputable def bXor (a b : AV) (d : α) (k : AV → α) : α := bitsK .xor Nat.xor a b d k

noncomputable def kbits : IntKind → Nat := @IntKind.rec (fun _ => Nat) 8 16 32 64 8 16 32 64
theorem kbits_eq (q : IntKind) : kbits q = q.bits := by cases q <;> rfl
noncomputable def minF (x y : Nat) : Nat := @Bool.rec (fun _ => Nat) y x (Nat.ble x y)
theorem minF_eq (x y : Nat) : minF x y = min x y := by
  simp only [minF]
  cases h : Nat.ble x y with
  | true => have := Nat.le_of_ble_eq_true h; simp [Nat.min_eq_left this]
  | false =>
    have h' : ¬ x ≤ y := fun h2 => by rw [Nat.ble_eq_true_of_le h2] at h; cases h
    simp; omega
noncomputable def shiftK (op : BinOp) (f : IntKind → Nat → Nat → α) (a b : AV) (d : α) (k : AV → α) : α :=
  intK a (slowK op a b d k) fun ka m => intK b (slowK op a b d k) fun _ n => @Int.rec (fun _ => α) (fun x => @Int.rec (fun _ => α) (fun y => f ka x (minF y (kbits ka))) (fun _ => slowK op a b d k) n) (fun _ => slowK op a b d k) m
noncomputable def bShr (a b : AV) (d : α) (k : AV → α) : α := shiftK .shr (fun q x s => natK (Nat.shiftRight x s) fun r => k (.int q (.ofNat r))) a b d k
noncomputable def bShl (a b : AV) (d : α) (k : AV → α) : α := shiftK .shl (fun q x s => wrapK q (.ofNat (Nat.shiftLeft x s)) fun r => k (.int q r)) a b d k

noncomputable def binK : BinOp → AV → AV → α → (AV → α) → α := @BinOp.rec (fun _ => AV → AV → α → (AV → α) → α) bAdd bSub bMul bQuo bRem bAnd bOr bXor bShl bShr (slowK .andNot) bEql bNeq bLss bLeq bGtr bGeq

theorem tdiv_nat (x y : Nat) : (Int.ofNat x).tdiv (Int.ofNat y) = Int.ofNat (x / y) := rfl
theorem tmod_nat (x y : Nat) : (Int.ofNat x).tmod (Int.ofNat y) = Int.ofNat (x % y) := rfl

theorem kmost_lt {q : IntKind} (hs : ksign q = false) {x : Nat} (h : x ≤ kmost q) : x < 2 ^ q.bits := by
  cases q <;> first | (cases hs; done) | skip
  all_goals simp only [kmost] at h; simp only [IntKind.bits]; omega

theorem bv_nat (b x : Nat) : BitVec.ofInt b (Int.ofNat x) = BitVec.ofNat b x := by
  simp

theorem bitsK_eq {op : BinOp} {f : Nat → Nat → Nat} (h : ∀ q x y, ksign q = false → x ≤ kmost q → y ≤ kmost q → binAV op (.int q (.ofNat x)) (.int q (.ofNat y)) = some (.int q (.ofNat (f x y)))) (a b : AV) (d : α) (k : AV → α) :
    bitsK op f a b d k = match binAV op a b with | some r => k r | none => d := by
  refine int2K_eq fun q m n => nat2K_eq fun x y => ?_
  cases hs : ksign q with
  | true => exact slowK_eq _ _ _ _ _
  | false =>
    cases h1 : Nat.ble x (kmost q) with
    | false => exact slowK_eq _ _ _ _ _
    | true =>
      cases h2 : Nat.ble y (kmost q) with
      | false => exact slowK_eq _ _ _ _ _
      | true =>
        simp only [natK_eq]
        rw [h q x y hs (Nat.le_of_ble_eq_true h1) (Nat.le_of_ble_eq_true h2)]

theorem wrap_lt {q : IntKind} (hs : ksign q = false) {x : Nat} (h : x < 2 ^ q.bits) : q.wrap (x : Int) = (x : Int) := by
  refine wrap_in ?_
  cases q <;> first | (cases hs; done) | skip
  all_goals simp only [kmost]; simp only [IntKind.bits] at h; omega

theorem and_ok (q : IntKind) (x y : Nat) (hs : ksign q = false) (hx : x ≤ kmost q) (hy : y ≤ kmost q) : binAV .and (.int q (.ofNat x)) (.int q (.ofNat y)) = some (.int q (.ofNat (Nat.land x y))) := by
  have h1 := kmost_lt hs hx
  have h2 := kmost_lt hs hy
  simp only [binAV, if_true, arI, Option.map_some, bv_nat, BitVec.toNat_and, BitVec.toNat_ofNat, Nat.mod_eq_of_lt h1, Nat.mod_eq_of_lt h2]
  rw [wrap_lt hs (Nat.and_lt_two_pow x h2)]; rfl
theorem or_ok (q : IntKind) (x y : Nat) (hs : ksign q = false) (hx : x ≤ kmost q) (hy : y ≤ kmost q) : binAV .or (.int q (.ofNat x)) (.int q (.ofNat y)) = some (.int q (.ofNat (Nat.lor x y))) := by
  have h1 := kmost_lt hs hx
  have h2 := kmost_lt hs hy
  simp only [binAV, if_true, arI, Option.map_some, bv_nat, BitVec.toNat_or, BitVec.toNat_ofNat, Nat.mod_eq_of_lt h1, Nat.mod_eq_of_lt h2]
  rw [wrap_lt hs (Nat.or_lt_two_pow h1 h2)]; rfl
theorem xor_ok (q : IntKind) (x y : Nat) (hs : ksign q = false) (hx : x ≤ kmost q) (hy : y ≤ kmost q) : binAV .xor (.int q (.ofNat x)) (.int q (.ofNat y)) = some (.int q (.ofNat (Nat.xor x y))) := by
  have h1 := kmost_lt hs hx
  have h2 := kmost_lt hs hy
  simp only [binAV, if_true, arI, Option.map_some, bv_nat, BitVec.toNat_xor, BitVec.toNat_ofNat, Nat.mod_eq_of_lt h1, Nat.mod_eq_of_lt h2]
  rw [wrap_lt hs (Nat.xor_lt_two_pow h1 h2)]; rfl

theorem quo_ok (q : IntKind) (x y : Nat) (d : α) (k : AV → α) : (@Nat.rec (fun _ => α) d (fun _ _ => wrapK q (.ofNat (Nat.div x y)) fun r => k (.int q r)) y : α) = match binAV .quo (.int q (.ofNat x)) (.int q (.ofNat y)) with | some r => k r | none => d := by
  cases y with
  | zero => simp [binAV, arI]; rfl
  | succ y =>
    simp only [wrapK_eq, binAV, if_true, arI, tdiv_nat]
    rw [if_neg (by intro h; cases h)]; rfl
theorem rem_ok (q : IntKind) (x y : Nat) (d : α) (k : AV → α) : (@Nat.rec (fun _ => α) d (fun _ _ => natK (Nat.mod x y) fun r => k (.int q (.ofNat r))) y : α) = match binAV .rem (.int q (.ofNat x)) (.int q (.ofNat y)) with | some r => k r | none => d := by
  cases y with
  | zero => simp [binAV, arI]; rfl
  | succ y =>
    simp only [natK_eq, binAV, if_true, arI, tmod_nat]
    rw [if_neg (by intro h; cases h)]; rfl

theorem binK_eq (op : BinOp) (a b : AV) (d : α) (k : AV → α) : binK op a b d k = match binAV op a b with | some r => k r | none => d := by
  cases op
  case add => exact int2K_eq fun q m n => by simp only [wrapK_eq, iadd_eq, binAV, if_true, arI, Option.map_some]
  case sub => exact int2K_eq fun q m n => by simp only [wrapK_eq, isub_eq, binAV, if_true, arI, Option.map_some]
  case mul => exact int2K_eq fun q m n => by simp only [wrapK_eq, imul_eq, binAV, if_true, arI, Option.map_some]
  case quo => exact int2K_eq fun q m n => nat2K_eq fun x y => quo_ok q x y d k
  case rem => exact int2K_eq fun q m n => nat2K_eq fun x y => rem_ok q x y d k
  case and => exact bitsK_eq and_ok a b d k
  case or => exact bitsK_eq or_ok a b d k
  case xor => exact bitsK_eq xor_ok a b d k
  case shl =>
    show bShl a b d k = _
    simp only [bShl, shiftK, intK_eq]
    split
    · rename_i ka m
      split
      · rename_i kb n
        cases m with
        | negSucc x => exact slowK_eq _ _ _ _ _
        | ofNat x => cases n with
          | negSucc y => exact slowK_eq _ _ _ _ _
          | ofNat y =>
            simp only [wrapK_eq, minF_eq, kbits_eq, binAV, shI]
            rw [if_neg (by simp)]
            simp only [Option.map_some, Int.ofNat_eq_natCast, Int.toNat_natCast]
            congr 2
            show ka.wrap (((x <<< min y ka.bits : Nat)) : Int) = _
            rw [Nat.shiftLeft_eq]
            congr 1
      · exact slowK_eq _ _ _ _ _
    · exact slowK_eq _ _ _ _ _
  case shr =>
    show bShr a b d k = _
    simp only [bShr, shiftK, intK_eq]
    split
    · rename_i ka m
      split
      · rename_i kb n
        cases m with
        | negSucc x => exact slowK_eq _ _ _ _ _
        | ofNat x => cases n with
          | negSucc y => exact slowK_eq _ _ _ _ _
          | ofNat y =>
            simp only [natK_eq, minF_eq, kbits_eq, binAV, shI]
            rw [if_neg (by simp)]
            simp only [Option.map_some, Int.ofNat_eq_natCast, Int.toNat_natCast]
            congr 2
            show (((x >>> min y ka.bits : Nat)) : Int) = _
            rw [Nat.shiftRight_eq_div_pow, Int.natCast_ediv]
            rw [Int.fdiv_eq_ediv_of_nonneg _ (by exact_mod_cast Nat.zero_le _)]
            simp
      · exact slowK_eq _ _ _ _ _
    · exact slowK_eq _ _ _ _ _
  case andNot => exact slowK_eq _ _ _ _ _
  case eql => exact int2K_eq fun q m n => by simp only [boolK_eq, ibeq_eq, binAV, if_true, cmpI, Option.map_some]
  case neq => exact int2K_eq fun q m n => by simp only [boolK_eq, ibeq_eq, notF_eq, binAV, if_true, cmpI, Option.map_some]; rfl
  case lss => exact int2K_eq fun q m n => by simp only [boolK_eq, iblt_eq, binAV, if_true, cmpI, Option.map_some]
  case leq => exact int2K_eq fun q m n => by simp only [boolK_eq, ible_eq, binAV, if_true, cmpI, Option.map_some]
  case gtr => exact int2K_eq fun q m n => by simp only [boolK_eq, iblt_eq, binAV, if_true, cmpI, Option.map_some, gt_iff_lt]
  case geq => exact int2K_eq fun q m n => by simp only [boolK_eq, ible_eq, binAV, if_true, cmpI, Option.map_some, ge_iff_le]
end
end Ey
