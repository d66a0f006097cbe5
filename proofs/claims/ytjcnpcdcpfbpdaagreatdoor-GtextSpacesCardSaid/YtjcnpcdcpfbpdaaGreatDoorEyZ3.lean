/- The fast form: numbers, strings, what is held against one another. -/
import Derived.Test.YtjcnpcdcpfbpdaaGreatDoorEyZ2
namespace Ey
open Go (IntKind FloatKind BinOp UnOp)

theorem wrap64 {z : Int} (h1 : -9223372036854775808 ≤ z) (h2 : z < 9223372036854775808) : IntKind.i64.wrap z = z := by
  simp [IntKind.wrap, IntKind.bits, IntKind.signed]; omega
theorem subB (B w : Nat) : Nat.sub (B + 1 + w) B = w + 1 := by show B + 1 + w - B = w + 1; omega
theorem someI {A B : Int} (h : A = B) : some (AV.int .i64 A) = some (AV.int .i64 B) := h ▸ rfl
/-- how many values a kind has -/
noncomputable def mK (k : Nat) : Nat := @Nat.rec (fun _ => Nat) 256 (fun k _ => @Nat.rec (fun _ => Nat) 65536 (fun k _ => @Nat.rec (fun _ => Nat) 4294967296 (fun _ _ => 18446744073709551616) k) k) k
theorem mK_eq (k : Nat) : mK k = 2 ^ (kk k).bits := by
  match k with
  | 0 => rfl
  | 1 => rfl
  | 2 => rfl
  | k + 3 => rfl
theorem kk_signed (k : Nat) : (kk k).signed = false := by
  match k with
  | 0 => rfl
  | 1 => rfl
  | 2 => rfl
  | k + 3 => rfl
theorem mK_pos (k : Nat) : 0 < mK k := by rw [mK_eq]; exact Nat.pow_pos (by decide)
theorem wrapU (k : Nat) (z : Int) : (kk k).wrap z = z % (mK k : Int) := by
  simp only [IntKind.wrap, kk_signed, mK_eq]
  simp
theorem wrapUn (k n : Nat) : (kk k).wrap (n : Int) = ((n % mK k : Nat) : Int) := by
  rw [wrapU]; norm_cast

section
variable {q : Pr}

/-- an answer that is a value -/
def Ans (κ : V → FR) (q : Pr) (r : Option AV) : Prop := ∀ x a, r = some a → x.pv = some a → Agr (κ x) q

noncomputable def slowB (op : BinOp) (a b : V) (κ : V → FR) : FR := vK a .bad (vK b .bad (@Option.rec AV (fun _ => FR) .bad (fun r => κ (ofAV r)) (binAV op a.av b.av)))
def bin2 (op : BinOp) (ra rb : Option AV) : Option AV := match ra, rb with
  | some a, some b => binAV op a b
  | _, _ => none
theorem slowB_ok {op : BinOp} {a b : V} {ra rb : Option AV} (ha : a.val ra) (hb : b.val rb) {κ : V → FR} (h : Ans κ q (bin2 op ra rb)) : Agr (slowB op a b κ) q := by
  refine vK_ok (P := fun r => Agr r q) q.bad fun h1 => vK_ok (P := fun r => Agr r q) q.bad fun h2 => ?_
  obtain rfl := ha _ h1
  obtain rfl := hb _ h2
  simp only [bin2] at h
  cases hr : binAV op a.av b.av with
  | none => exact q.bad
  | some r => exact h _ _ hr (ofAV_pv r).1

noncomputable def num2 (op : BinOp) (a b : V) (κ : V → FR) (fi : Nat → Nat → FR) (fu : Nat → Nat → Nat → FR) (fs : Nat → Nat → Nat → Nat → FR) : FR :=
  numK a (slowB op a b κ) (fun x => iK b (slowB op a b κ) fun y => fi x y) (fun k x => uK b (slowB op a b κ) fun k' y => ifB (Nat.beq k k') (slowB op a b κ) (fu k x y)) (fun l n => sK b (slowB op a b κ) fun l' n' => fs l n l' n')
theorem num2_ok {op : BinOp} {a b : V} {ra rb : Option AV} (ha : a.val ra) (hb : b.val rb) {κ : V → FR} {fi : Nat → Nat → FR} {fu : Nat → Nat → Nat → FR} {fs : Nat → Nat → Nat → Nat → FR} (h : Ans κ q (bin2 op ra rb))
    (hi : Agr (slowB op a b κ) q → ∀ x y : Nat, Ans κ q (binAV op (.int .i64 ((x : Int) - 9223372036854775808)) (.int .i64 ((y : Int) - 9223372036854775808))) → Agr (fi x y) q)
    (hu : Agr (slowB op a b κ) q → ∀ k x y : Nat, Ans κ q (binAV op (.int (kk k) x) (.int (kk k) y)) → Agr (fu k x y) q)
    (hs : Agr (slowB op a b κ) q → ∀ l n l' n' : Nat, Ans κ q (binAV op (.str (byts l n)) (.str (byts l' n'))) → Agr (fs l n l' n') q) : Agr (num2 op a b κ fi fu fs) q := by
  have sl := slowB_ok ha hb h
  refine numK_ok (P := fun r => Agr r q) ha sl (fun x hx => iK_ok (P := fun r => Agr r q) hb sl fun y hy => hi sl x y ?_)
    (fun k x hx => uK_ok (P := fun r => Agr r q) hb sl fun k' y hy => ?_) (fun l n hx => sK_ok (P := fun r => Agr r q) hb sl fun l' n' hy => hs sl l n l' n' ?_)
  · rw [hx, hy] at h; exact h
  · rw [ifB_beq]
    split
    · rename_i hk; subst hk; rw [hx, hy] at h; exact hu sl k x y h
    · exact sl
  · rw [hx, hy] at h; exact h

/-- a whole number in its range -/
noncomputable def iR (lo z : Nat) (slow : FR) (κ : V → FR) : FR := ifB (Nat.ble lo z) slow (ifB (Nat.ble (Nat.sub z lo) 18446744073709551615) slow (κ (.i (Nat.sub z lo))))
theorem iR_ok {lo z : Nat} {slow : FR} {κ : V → FR} {r : Option AV} (hs : Agr slow q) (h : Ans κ q r) (hz : lo ≤ z → z - lo < 18446744073709551616 → r = some (.int .i64 (((z - lo : Nat) : Int) - 9223372036854775808))) : Agr (iR lo z slow κ) q := by
  simp only [iR, ifB_ble]
  split
  · rename_i h1
    split
    · rename_i h2
      exact h (.i (z - lo)) _ (hz h1 (by have h2' : z - lo ≤ 18446744073709551615 := h2; omega)) rfl
    · exact hs
  · exact hs

noncomputable def zAdd (a b : V) (κ : V → FR) : FR := num2 .add a b κ (fun x y => iR 9223372036854775808 (Nat.add x y) (slowB .add a b κ) κ)
  (fun k x y => κ (.u k (Nat.mod (Nat.add x y) (mK k)))) (fun l n l' n' => ifB (Nat.ble (Nat.add l l') 1099511627776) .bad (κ (.s (Nat.add l l') (Nat.add (Nat.mod n (Nat.shiftLeft 1 (Nat.mul 8 l))) (Nat.shiftLeft n' (Nat.mul 8 l))))))
theorem shl8 (n j : Nat) : Nat.shiftLeft n (Nat.mul 8 j) = n * 256 ^ j := by
  show n <<< (8 * j) = _
  rw [Nat.shiftLeft_eq, Nat.pow_mul]
theorem shr8 (n j : Nat) : Nat.shiftRight n (Nat.mul 8 j) = n / 256 ^ j := by
  show n >>> (8 * j) = _
  rw [Nat.shiftRight_eq_div_pow, Nat.pow_mul]
theorem byts_app : ∀ l n m p, byts l n ++ byts m p = byts (l + m) (n % 256 ^ l + p * 256 ^ l)
  | 0, n, m, p => by simp [byts, Nat.mod_one]
  | l + 1, n, m, p => by
    rw [show l + 1 + m = (l + m) + 1 from by omega]
    simp only [byts, List.cons_append]
    rw [byts_app l]
    have e1 : n % 256 ^ (l + 1) = n % 256 + 256 * (n / 256 % 256 ^ l) := by
      rw [Nat.pow_succ, Nat.mul_comm, Nat.mod_mul]
    have e2 : p * 256 ^ (l + 1) = 256 * (p * 256 ^ l) := by
      rw [Nat.pow_succ]; simp only [Nat.mul_comm, Nat.mul_left_comm]
    have e3 : n % 256 ^ (l + 1) + p * 256 ^ (l + 1) = n % 256 + 256 * (n / 256 % 256 ^ l + p * 256 ^ l) := by
      rw [e1, e2, Nat.mul_add, Nat.add_assoc]
    rw [e3, Nat.add_mul_mod_self_left, Nat.add_mul_div_left _ _ (by decide), Nat.mod_mod]
    rw [Nat.div_eq_of_lt (Nat.mod_lt n (by decide)), Nat.zero_add]
theorem zAdd_ok {a b : V} {ra rb : Option AV} (ha : a.val ra) (hb : b.val rb) {κ : V → FR} (h : Ans κ q (bin2 .add ra rb)) : Agr (zAdd a b κ) q := by
  refine num2_ok ha hb h (fun sl x y h => iR_ok sl h fun h1 h2 => ?_) (fun sl k x y h => h (.u k _) _ ?_ rfl) (fun sl l n l' n' h => ?_)
  · have h1' : 9223372036854775808 ≤ x + y := h1
    have h2' : x + y - 9223372036854775808 < 18446744073709551616 := h2
    show some (AV.int .i64 (IntKind.i64.wrap _)) = some (.int .i64 ((((x + y) - 9223372036854775808 : Nat) : Int) - 9223372036854775808))
    rw [wrap64 (by omega) (by omega)]
    exact someI (by omega)
  · show (if kk k = kk k then (some ((kk k).wrap ((x : Int) + y))).map (AV.int (kk k)) else none) = some (AV.int (kk k) ((((x + y) % mK k : Nat)) : Int))
    rw [if_pos rfl, ← wrapUn]; rfl
  · rw [ifB_ble]
    split
    · rename_i h1
      refine h _ _ ?_ rfl
      have h1' : l + l' ≤ 1099511627776 := h1
      show (if (byts l n).length + (byts l' n').length ≤ 2 ^ 40 then some (AV.str (byts l n ++ byts l' n')) else none) = some (.str (byts (l + l') (n % (Nat.shiftLeft 1 (Nat.mul 8 l)) + Nat.shiftLeft n' (Nat.mul 8 l))))
      rw [byts_length, byts_length, if_pos (by omega), byts_app, shl8, shl8, Nat.one_mul]
    · exact q.bad

noncomputable def zSub (a b : V) (κ : V → FR) : FR := num2 .sub a b κ (fun x y => iR y (Nat.add x 9223372036854775808) (slowB .sub a b κ) κ)
  (fun k x y => ifB (Nat.ble y x) (slowB .sub a b κ) (κ (.u k (Nat.mod (Nat.sub x y) (mK k))))) (fun _ _ _ _ => slowB .sub a b κ)
theorem zSub_ok {a b : V} {ra rb : Option AV} (ha : a.val ra) (hb : b.val rb) {κ : V → FR} (h : Ans κ q (bin2 .sub ra rb)) : Agr (zSub a b κ) q := by
  refine num2_ok ha hb h (fun sl x y h => iR_ok sl h fun h1 h2 => ?_) (fun sl k x y h => ?_) (fun sl l n l' n' h => sl)
  · have h1' : y ≤ x + 9223372036854775808 := h1
    have h2' : x + 9223372036854775808 - y < 18446744073709551616 := h2
    show some (AV.int .i64 (IntKind.i64.wrap _)) = some (.int .i64 ((((x + 9223372036854775808) - y : Nat) : Int) - 9223372036854775808))
    rw [wrap64 (by omega) (by omega)]
    exact someI (by omega)
  · rw [ifB_ble]
    split
    · rename_i h1
      refine h (.u k _) _ ?_ rfl
      show (if kk k = kk k then (some ((kk k).wrap ((x : Int) - y))).map (AV.int (kk k)) else none) = some (AV.int (kk k) ((((x - y) % mK k : Nat)) : Int))
      rw [if_pos rfl, ← wrapUn]
      have h1' : y ≤ x := h1
      have : ((x : Int) - y) = ((x - y : Nat) : Int) := by omega
      rw [this]; rfl
    · exact sl

noncomputable def zMul (a b : V) (κ : V → FR) : FR := num2 .mul a b κ (fun x y => ifB (Nat.ble 9223372036854775808 x) (slowB .mul a b κ) (ifB (Nat.ble 9223372036854775808 y) (slowB .mul a b κ)
    (iR 0 (Nat.add (Nat.mul (Nat.sub x 9223372036854775808) (Nat.sub y 9223372036854775808)) 9223372036854775808) (slowB .mul a b κ) κ)))
  (fun k x y => κ (.u k (Nat.mod (Nat.mul x y) (mK k)))) (fun _ _ _ _ => slowB .mul a b κ)
theorem zMul_ok {a b : V} {ra rb : Option AV} (ha : a.val ra) (hb : b.val rb) {κ : V → FR} (h : Ans κ q (bin2 .mul ra rb)) : Agr (zMul a b κ) q := by
  refine num2_ok ha hb h (fun sl x y h => ?_) (fun sl k x y h => h (.u k _) _ ?_ rfl) (fun sl l n l' n' h => sl)
  · rw [ifB_ble, ifB_ble]
    split
    · rename_i hx
      split
      · rename_i hy
        refine iR_ok sl h fun h1 h2 => ?_
        obtain ⟨u, rfl⟩ := Nat.exists_eq_add_of_le hx
        obtain ⟨w, rfl⟩ := Nat.exists_eq_add_of_le hy
        have e1 : Nat.sub (9223372036854775808 + u) 9223372036854775808 = u := Nat.add_sub_cancel_left ..
        have e2 : Nat.sub (9223372036854775808 + w) 9223372036854775808 = w := Nat.add_sub_cancel_left ..
        rw [e1, e2] at h2 ⊢
        have h2' : u * w + 9223372036854775808 - 0 < 18446744073709551616 := h2
        show some (AV.int .i64 (IntKind.i64.wrap _)) = some (.int .i64 (((u * w + 9223372036854775808 - 0 : Nat) : Int) - 9223372036854775808))
        have e3 : (((9223372036854775808 + u : Nat) : Int) - 9223372036854775808) * (((9223372036854775808 + w : Nat) : Int) - 9223372036854775808) = ((u * w : Nat) : Int) := by
          have a1 : (((9223372036854775808 + u : Nat) : Int) - 9223372036854775808) = (u : Int) := by omega
          have a2 : (((9223372036854775808 + w : Nat) : Int) - 9223372036854775808) = (w : Int) := by omega
          rw [a1, a2, Int.natCast_mul]
        rw [e3, wrap64 (by omega) (by omega)]
        exact someI (by omega)
      · exact sl
    · exact sl
  · show (if kk k = kk k then (some ((kk k).wrap ((x : Int) * y))).map (AV.int (kk k)) else none) = some (AV.int (kk k) ((((x * y) % mK k : Nat)) : Int))
    rw [if_pos rfl, ← wrapUn]; rfl

noncomputable def zDiv (op : BinOp) (f : Nat → Nat → Nat) (a b : V) (κ : V → FR) : FR := num2 op a b κ (fun x y => ifB (Nat.ble 9223372036854775808 x) (slowB op a b κ) (ifB (Nat.ble 9223372036854775809 y) (slowB op a b κ)
    (iR 0 (Nat.add (f (Nat.sub x 9223372036854775808) (Nat.sub y 9223372036854775808)) 9223372036854775808) (slowB op a b κ) κ)))
  (fun k x y => ifB (Nat.ble 1 y) (slowB op a b κ) (ifB (Nat.ble (Nat.succ (f x y)) (mK k)) (slowB op a b κ) (κ (.u k (f x y))))) (fun _ _ _ _ => slowB op a b κ)
theorem zDiv_ok {op : BinOp} {f : Nat → Nat → Nat} (hf : ∀ (k : IntKind) (x y : Nat), 0 < y → k.wrap ((f x y : Nat) : Int) = ((f x y : Nat) : Int) → binAV op (.int k x) (.int k y) = some (.int k (f x y : Nat)))
    {a b : V} {ra rb : Option AV} (ha : a.val ra) (hb : b.val rb) {κ : V → FR} (h : Ans κ q (bin2 op ra rb)) : Agr (zDiv op f a b κ) q := by
  refine num2_ok ha hb h (fun sl x y h => ?_) (fun sl k x y h => ?_) (fun sl l n l' n' h => sl)
  · rw [ifB_ble, ifB_ble]
    split
    · rename_i hx
      split
      · rename_i hy
        refine iR_ok sl h fun h1 h2 => ?_
        obtain ⟨u, rfl⟩ := Nat.exists_eq_add_of_le hx
        obtain ⟨w, rfl⟩ := Nat.exists_eq_add_of_le hy
        have e1 : Nat.sub (9223372036854775808 + u) 9223372036854775808 = u := Nat.add_sub_cancel_left ..
        have e2 : Nat.sub (9223372036854775809 + w) 9223372036854775808 = w + 1 := subB 9223372036854775808 w
        rw [e1, e2] at h2 ⊢
        have h2' : f u (w + 1) + 9223372036854775808 - 0 < 18446744073709551616 := h2
        have e3 : (((9223372036854775808 + u : Nat) : Int) - 9223372036854775808) = (u : Int) := by omega
        have e4 : (((9223372036854775809 + w : Nat) : Int) - 9223372036854775808) = ((w + 1 : Nat) : Int) := by omega
        rw [e3, e4, hf .i64 u (w + 1) (by omega) (wrap64 (by omega) (by omega))]
        show some (AV.int .i64 _) = some (.int .i64 (((f u (w + 1) + 9223372036854775808 - 0 : Nat) : Int) - 9223372036854775808))
        exact someI (by omega)
      · exact sl
    · exact sl
  · rw [ifB_ble, ifB_ble]
    split
    · rename_i hy
      split
      · rename_i hz
        refine h (.u k _) _ (hf (kk k) x y hy ?_) rfl
        rw [wrapUn, Nat.mod_eq_of_lt hz]
      · exact sl
    · exact sl
theorem quo_ok (k : IntKind) (x y : Nat) (hy : 0 < y) (hw : k.wrap ((Nat.div x y : Nat) : Int) = ((Nat.div x y : Nat) : Int)) : binAV .quo (.int k x) (.int k y) = some (.int k (Nat.div x y : Nat)) := by
  show (if k = k then (if (y : Int) = 0 then none else some (k.wrap ((x : Int).tdiv y))).map (AV.int k) else none) = _
  rw [if_pos rfl, if_neg (by omega)]
  have : (x : Int).tdiv y = ((Nat.div x y : Nat) : Int) := rfl
  rw [this, hw]; rfl
theorem rem_ok (k : IntKind) (x y : Nat) (hy : 0 < y) (_ : k.wrap ((Nat.mod x y : Nat) : Int) = ((Nat.mod x y : Nat) : Int)) : binAV .rem (.int k x) (.int k y) = some (.int k (Nat.mod x y : Nat)) := by
  show (if k = k then (if (y : Int) = 0 then none else some ((x : Int).tmod y)).map (AV.int k) else none) = _
  rw [if_pos rfl, if_neg (by omega)]
  rfl

/-- bits, number by number, of two numbers of a kind without a sign -/
noncomputable def zBit (op : BinOp) (f : Nat → Nat → Nat) (a b : V) (κ : V → FR) : FR := num2 op a b κ (fun _ _ => slowB op a b κ)
  (fun k x y => ifB (Nat.ble (Nat.succ x) (mK k)) (slowB op a b κ) (ifB (Nat.ble (Nat.succ y) (mK k)) (slowB op a b κ) (κ (.u k (f x y))))) (fun _ _ _ _ => slowB op a b κ)
theorem zBit_ok {op : BinOp} {f : Nat → Nat → Nat} (hf : ∀ (k x y : Nat), x < mK k → y < mK k → binAV op (.int (kk k) x) (.int (kk k) y) = some (.int (kk k) (f x y : Nat)))
    {a b : V} {ra rb : Option AV} (ha : a.val ra) (hb : b.val rb) {κ : V → FR} (h : Ans κ q (bin2 op ra rb)) : Agr (zBit op f a b κ) q := by
  refine num2_ok ha hb h (fun sl x y h => sl) (fun sl k x y h => ?_) (fun sl l n l' n' h => sl)
  rw [ifB_ble, ifB_ble]
  split
  · rename_i h1
    split
    · rename_i h2
      exact h (.u k _) _ (hf k x y h1 h2) rfl
    · exact sl
  · exact sl
theorem bvn (b x : Nat) : BitVec.ofInt b (x : Int) = BitVec.ofNat b x := by simp
theorem and_okz (k x y : Nat) (hx : x < mK k) (hy : y < mK k) : binAV .and (.int (kk k) x) (.int (kk k) y) = some (.int (kk k) (Nat.land x y : Nat)) := by
  rw [mK_eq] at hx hy
  simp only [binAV, if_true, arI, Option.map_some, bvn, BitVec.toNat_and, BitVec.toNat_ofNat, Nat.mod_eq_of_lt hx, Nat.mod_eq_of_lt hy]
  rw [wrapUn, Nat.mod_eq_of_lt (by rw [mK_eq]; exact Nat.and_lt_two_pow x hy)]; rfl
theorem or_okz (k x y : Nat) (hx : x < mK k) (hy : y < mK k) : binAV .or (.int (kk k) x) (.int (kk k) y) = some (.int (kk k) (Nat.lor x y : Nat)) := by
  rw [mK_eq] at hx hy
  simp only [binAV, if_true, arI, Option.map_some, bvn, BitVec.toNat_or, BitVec.toNat_ofNat, Nat.mod_eq_of_lt hx, Nat.mod_eq_of_lt hy]
  rw [wrapUn, Nat.mod_eq_of_lt (by rw [mK_eq]; exact Nat.or_lt_two_pow hx hy)]; rfl
theorem xor_okz (k x y : Nat) (hx : x < mK k) (hy : y < mK k) : binAV .xor (.int (kk k) x) (.int (kk k) y) = some (.int (kk k) (Nat.xor x y : Nat)) := by
  rw [mK_eq] at hx hy
  simp only [binAV, if_true, arI, Option.map_some, bvn, BitVec.toNat_xor, BitVec.toNat_ofNat, Nat.mod_eq_of_lt hx, Nat.mod_eq_of_lt hy]
  rw [wrapUn, Nat.mod_eq_of_lt (by rw [mK_eq]; exact Nat.xor_lt_two_pow hx hy)]; rfl

/-- how far to shift -/
noncomputable def shK (b : V) (d : FR) (f : Nat → FR) : FR := numK b d (fun y => ifB (Nat.ble 9223372036854775808 y) d (f (Nat.sub y 9223372036854775808))) (fun _ y => f y) (fun _ _ => d)
noncomputable def biK (k : Nat) : Nat := @Nat.rec (fun _ => Nat) 8 (fun k _ => @Nat.rec (fun _ => Nat) 16 (fun k _ => @Nat.rec (fun _ => Nat) 32 (fun _ _ => 64) k) k) k
theorem biK_eq (k : Nat) : biK k = (kk k).bits := by
  match k with
  | 0 => rfl
  | 1 => rfl
  | 2 => rfl
  | k + 3 => rfl
noncomputable def zMin (x y : Nat) : Nat := ifB (Nat.ble x y) y x
theorem zMin_eq (x y : Nat) : zMin x y = min x y := by
  rw [zMin, ifB_ble]; split <;> omega
noncomputable def zShl (a b : V) (κ : V → FR) : FR := uK a (slowB .shl a b κ) fun k x => shK b (slowB .shl a b κ) fun s => κ (.u k (Nat.mod (Nat.shiftLeft x (zMin s (biK k))) (mK k)))
noncomputable def zShr (a b : V) (κ : V → FR) : FR := numK a (slowB .shr a b κ)
  (fun x => ifB (Nat.ble 9223372036854775808 x) (slowB .shr a b κ) (shK b (slowB .shr a b κ) fun s => κ (.i (Nat.add (Nat.shiftRight (Nat.sub x 9223372036854775808) (zMin s 64)) 9223372036854775808))))
  (fun k x => shK b (slowB .shr a b κ) fun s => κ (.u k (Nat.shiftRight x (zMin s (biK k))))) (fun _ _ => slowB .shr a b κ)
theorem shK_ok {b : V} {rb : Option AV} (hb : b.val rb) {d : FR} {f : Nat → FR} (hd : Agr d q) (hf : ∀ (k : IntKind) (s : Nat), rb = some (.int k s) → Agr (f s) q) : Agr (shK b d f) q := by
  refine numK_ok (P := fun r => Agr r q) hb hd (fun y hy => ?_) (fun k y hy => hf _ y hy) (fun _ _ _ => hd)
  rw [ifB_ble]
  split
  · rename_i h
    refine hf .i64 _ ?_
    obtain ⟨u, rfl⟩ := Nat.exists_eq_add_of_le h
    rw [hy]
    have : Nat.sub (9223372036854775808 + u) 9223372036854775808 = u := Nat.add_sub_cancel_left ..
    rw [this]; exact someI (by omega)
  · exact hd
theorem zShl_ok {a b : V} {ra rb : Option AV} (ha : a.val ra) (hb : b.val rb) {κ : V → FR} (h : Ans κ q (bin2 .shl ra rb)) : Agr (zShl a b κ) q := by
  have sl := slowB_ok ha hb h
  refine uK_ok (P := fun r => Agr r q) ha sl fun k x hx => shK_ok hb sl fun k' s hs => ?_
  rw [hx, hs] at h
  refine h (.u k _) _ ?_ rfl
  show (if (s : Int) < 0 then none else some ((kk k).wrap ((x : Int) * 2 ^ (min ((s : Int).toNat) (kk k).bits)))).map (AV.int (kk k)) = some (AV.int (kk k) ((Nat.shiftLeft x (zMin s (biK k)) % mK k : Nat) : Int))
  rw [if_neg (by omega), ← wrapUn, zMin_eq, biK_eq]
  have : Nat.shiftLeft x (min s (kk k).bits) = x * 2 ^ min s (kk k).bits := Nat.shiftLeft_eq _ _
  rw [this]
  simp
theorem zShr_ok {a b : V} {ra rb : Option AV} (ha : a.val ra) (hb : b.val rb) {κ : V → FR} (h : Ans κ q (bin2 .shr ra rb)) : Agr (zShr a b κ) q := by
  have sl := slowB_ok ha hb h
  have fd : ∀ (u m : Nat), (u : Int).fdiv (2 ^ m) = ((Nat.shiftRight u m : Nat) : Int) := fun u m => by
    have e : Nat.shiftRight u m = u / 2 ^ m := Nat.shiftRight_eq_div_pow _ _
    rw [e, Int.fdiv_eq_ediv_of_nonneg _ (Int.pow_nonneg (by decide))]
    norm_cast
  refine numK_ok (P := fun r => Agr r q) ha sl (fun x hx => ?_) (fun k x hx => shK_ok hb sl fun k' s hs => ?_) (fun _ _ _ => sl)
  · rw [ifB_ble]
    split
    · rename_i h1
      refine shK_ok hb sl fun k' s hs => ?_
      rw [hx, hs] at h
      refine h (.i _) _ ?_ rfl
      obtain ⟨u, rfl⟩ := Nat.exists_eq_add_of_le h1
      have e1 : Nat.sub (9223372036854775808 + u) 9223372036854775808 = u := Nat.add_sub_cancel_left ..
      have e3 : (((9223372036854775808 + u : Nat) : Int) - 9223372036854775808) = (u : Int) := by omega
      rw [e1, e3]
      show (if (s : Int) < 0 then none else some ((u : Int).fdiv (2 ^ (min ((s : Int).toNat) 64)))).map (AV.int .i64) = some (AV.int .i64 (((Nat.shiftRight u (zMin s 64) + 9223372036854775808 : Nat) : Int) - 9223372036854775808))
      rw [if_neg (by omega), zMin_eq, Int.toNat_natCast, fd]
      show some (AV.int .i64 _) = _
      exact someI (by omega)
    · exact sl
  · rw [hx, hs] at h
    refine h (.u k _) _ ?_ rfl
    show (if (s : Int) < 0 then none else some ((x : Int).fdiv (2 ^ (min ((s : Int).toNat) (kk k).bits)))).map (AV.int (kk k)) = some (AV.int (kk k) ((Nat.shiftRight x (zMin s (biK k)) : Nat) : Int))
    rw [if_neg (by omega), zMin_eq, biK_eq, Int.toNat_natCast, fd]; rfl

/-! ### held against one another -/
noncomputable def byEq (l n l' n' : Nat) : Bool := ifB (Nat.beq l l') false (Nat.beq (Nat.mod n (Nat.shiftLeft 1 (Nat.mul 8 l))) (Nat.mod n' (Nat.shiftLeft 1 (Nat.mul 8 l))))
theorem byts_inj : ∀ l n n', byts l n = byts l n' → n % 256 ^ l = n' % 256 ^ l
  | 0, n, n', _ => by simp [Nat.mod_one]
  | l + 1, n, n', h => by
    simp only [byts, List.cons.injEq] at h
    have h1 : n % 256 = n' % 256 := by
      have := congrArg UInt8.toNat h.1
      simpa [UInt8.toNat_ofNat] using this
    have h2 := byts_inj l _ _ h.2
    rw [Nat.pow_succ, Nat.mul_comm, Nat.mod_mul, Nat.mod_mul, h1, h2]
theorem byts_mod : ∀ l n, byts l n = byts l (n % 256 ^ l)
  | 0, n => rfl
  | l + 1, n => by
    simp only [byts]
    have e : n % 256 ^ (l + 1) = n % 256 + 256 * (n / 256 % 256 ^ l) := by
      rw [Nat.pow_succ, Nat.mul_comm, Nat.mod_mul]
    rw [e, Nat.add_mul_mod_self_left, Nat.mod_mod, Nat.add_mul_div_left _ _ (by decide), Nat.div_eq_of_lt (Nat.mod_lt n (by decide)), Nat.zero_add, ← byts_mod l]
theorem byEq_eq (l n l' n' : Nat) : byEq l n l' n' = (byts l n == byts l' n') := by
  rw [byEq, ifB_beq]
  by_cases h : l = l'
  · subst h
    rw [if_pos rfl, shl8, Nat.one_mul, beq_dec]
    rw [Bool.eq_iff_iff]
    simp only [decide_eq_true_eq, beq_iff_eq]
    constructor
    · intro h; rw [byts_mod l n, byts_mod l n']; exact congrArg _ h
    · intro h; exact byts_inj l n n' h
  · rw [if_neg h]
    symm
    rw [beq_eq_false_iff_ne]
    intro he
    have := congrArg List.length he
    rw [byts_length, byts_length] at this
    exact h this
noncomputable def zNot (b : Bool) : Bool := @Bool.rec (fun _ => Bool) true false b
theorem zNot_eq (b : Bool) : zNot b = !b := by cases b <;> rfl

/-- whole numbers or others, the same way -/
noncomputable def zCmp (op : BinOp) (f : Nat → Nat → Bool) (fs : Nat → Nat → Nat → Nat → FR) (a b : V) (κ : V → FR) : FR := num2 op a b κ (fun x y => κ (.b (f x y))) (fun _ x y => κ (.b (f x y))) fs
theorem zCmp_ok {op : BinOp} {f : Nat → Nat → Bool} {fs : Nat → Nat → Nat → Nat → FR} (hf : ∀ (k : IntKind) (x y : Nat) (B : Int), binAV op (.int k ((x : Int) - B)) (.int k ((y : Int) - B)) = some (.bool (f x y)))
    {a b : V} {ra rb : Option AV} (ha : a.val ra) (hb : b.val rb) {κ : V → FR} (h : Ans κ q (bin2 op ra rb))
    (hs : Agr (slowB op a b κ) q → ∀ l n l' n' : Nat, Ans κ q (binAV op (.str (byts l n)) (.str (byts l' n'))) → Agr (fs l n l' n') q) : Agr (zCmp op f fs a b κ) q := by
  refine num2_ok ha hb h (fun sl x y h => h (.b _) _ (hf .i64 x y _) rfl) (fun sl k x y h => h (.b _) _ ?_ rfl) hs
  have := hf (kk k) x y 0
  simp only [Int.sub_zero] at this
  exact this
noncomputable def zEql (a b : V) (κ : V → FR) : FR := zCmp .eql (fun x y => Nat.beq x y) (fun l n l' n' => κ (.b (byEq l n l' n'))) a b κ
noncomputable def zNeq (a b : V) (κ : V → FR) : FR := zCmp .neq (fun x y => zNot (Nat.beq x y)) (fun l n l' n' => κ (.b (zNot (byEq l n l' n')))) a b κ
noncomputable def zLss (a b : V) (κ : V → FR) : FR := zCmp .lss (fun x y => Nat.ble (Nat.succ x) y) (fun _ _ _ _ => slowB .lss a b κ) a b κ
noncomputable def zLeq (a b : V) (κ : V → FR) : FR := zCmp .leq (fun x y => Nat.ble x y) (fun _ _ _ _ => slowB .leq a b κ) a b κ
noncomputable def zGtr (a b : V) (κ : V → FR) : FR := zCmp .gtr (fun x y => Nat.ble (Nat.succ y) x) (fun _ _ _ _ => slowB .gtr a b κ) a b κ
noncomputable def zGeq (a b : V) (κ : V → FR) : FR := zCmp .geq (fun x y => Nat.ble y x) (fun _ _ _ _ => slowB .geq a b κ) a b κ
theorem ble_dec (a b : Nat) : Nat.ble a b = decide (a ≤ b) := by
  cases h : Nat.ble a b with
  | true => simp [Nat.le_of_ble_eq_true h]
  | false =>
    have h' : ¬ a ≤ b := fun h2 => by rw [Nat.ble_eq_true_of_le h2] at h; cases h
    simp only [h', decide_false]
theorem cmp_at (op : BinOp) (k : IntKind) (a b : Int) (r : Bool) (h : cmpI op a b = some r) (ho : binAV op (.int k a) (.int k b) = if k = k then (cmpI op a b).map .bool else none) : binAV op (.int k a) (.int k b) = some (.bool r) := by
  rw [ho, if_pos rfl, h]; rfl

noncomputable def binZ : BinOp → V → V → (V → FR) → FR := @BinOp.rec (fun _ => V → V → (V → FR) → FR) zAdd zSub zMul (zDiv .quo Nat.div) (zDiv .rem Nat.mod) (zBit .and Nat.land) (zBit .or Nat.lor) (zBit .xor Nat.xor) zShl zShr (slowB .andNot) zEql zNeq zLss zLeq zGtr zGeq
theorem binZ_ok (op : BinOp) {a b : V} {ra rb : Option AV} (ha : a.val ra) (hb : b.val rb) {κ : V → FR} (h : Ans κ q (bin2 op ra rb)) : Agr (binZ op a b κ) q := by
  cases op with
  | add => exact zAdd_ok ha hb h
  | sub => exact zSub_ok ha hb h
  | mul => exact zMul_ok ha hb h
  | quo => exact zDiv_ok quo_ok ha hb h
  | rem => exact zDiv_ok rem_ok ha hb h
  | and => exact zBit_ok and_okz ha hb h
  | or => exact zBit_ok or_okz ha hb h
  | xor => exact zBit_ok xor_okz ha hb h
  | shl => exact zShl_ok ha hb h
  | shr => exact zShr_ok ha hb h
  | andNot => exact slowB_ok ha hb h
  | eql =>
    refine zCmp_ok (fun k x y B => cmp_at _ k _ _ _ ?_ rfl) ha hb h fun sl l n l' n' h => h (.b _) _ ?_ rfl
    · simp only [cmpI, beq_dec, Option.some.injEq]; rw [Bool.eq_iff_iff]; simp; omega
    · rw [byEq_eq]; rfl
  | neq =>
    refine zCmp_ok (fun k x y B => cmp_at _ k _ _ _ ?_ rfl) ha hb h fun sl l n l' n' h => h (.b _) _ ?_ rfl
    · simp only [cmpI, zNot_eq, beq_dec, Option.some.injEq]; rw [Bool.eq_iff_iff]; simp; omega
    · rw [zNot_eq, byEq_eq]; rfl
  | lss =>
    refine zCmp_ok (fun k x y B => cmp_at _ k _ _ _ ?_ rfl) ha hb h fun sl l n l' n' h => sl
    simp only [cmpI, ble_dec, Option.some.injEq, decide_eq_decide]; omega
  | leq =>
    refine zCmp_ok (fun k x y B => cmp_at _ k _ _ _ ?_ rfl) ha hb h fun sl l n l' n' h => sl
    simp only [cmpI, ble_dec, Option.some.injEq, decide_eq_decide]; omega
  | gtr =>
    refine zCmp_ok (fun k x y B => cmp_at _ k _ _ _ ?_ rfl) ha hb h fun sl l n l' n' h => sl
    simp only [cmpI, ble_dec, Option.some.injEq, decide_eq_decide]; omega
  | geq =>
    refine zCmp_ok (fun k x y B => cmp_at _ k _ _ _ ?_ rfl) ha hb h fun sl l n l' n' h => sl
    simp only [cmpI, ble_dec, Option.some.injEq, decide_eq_decide]; omega
end
end Ey
