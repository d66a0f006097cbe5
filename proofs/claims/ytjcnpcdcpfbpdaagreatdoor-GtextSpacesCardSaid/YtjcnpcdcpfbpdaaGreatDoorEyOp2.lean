/- Numbers, texts, parts of values: what the model does, out of what ours does. -/
import Derived.Test.YtjcnpcdcpfbpdaaGreatDoorEyOp1
import Derived.Laws.StructEq
import Derived.Laws.Strings
namespace Ey
open Go Go.RowKit

section
variable {C : Cx} {g : Gh} {own : Own} {B : Nat} {H : Heap} {w : World} {env : Env} {a : Act} {n : Nat} {L : List Nat}

theorem strLess_eq : ∀ x y, strLess x y = Op.bytesLess x y
  | _, [] => by cases ‹List UInt8› <;> rfl
  | [], _ :: _ => rfl
  | a :: x, b :: y => by simp only [strLess, Op.bytesLess, strLess_eq x y]

theorem eqGuard_int (op : BinOp) (t : TypeId) (x y : Operand) (k k' : IntKind) (m m' : Int) : (eqGuard op t x y (.int k m) (.int k' m')).run C.P w = .ok () w := by
  cases op <;> simp [eqGuard]
theorem eqGuard_str (op : BinOp) (t : TypeId) (x y : Operand) (m m' : ByteArray) : (eqGuard op t x y (.string m) (.string m')).run C.P w = .ok () w := by
  cases op <;> simp [eqGuard]

theorem bin_sim {op : BinOp} {p q z : AV} (hz : binAV op p q = some z) {u v : Value} (hp : VR C g p u) (hq : VR C g q v) (t : TypeId) (x y : Operand) :
    ∃ r, (do eqGuard op t x y u v; Go.binOp op t u v : Sem Value).run C.P w = .ok r w ∧ VR C g z r := by
  unfold binAV at hz
  split at hz
  · rename_i k m k' m'
    cases hp; cases hq
    simp only [Sem.run_bind, eqGuard_int (C := C) (w := w), Result.andThen_ok]
    cases op
    case shl => 
      simp only [shI] at hz
      split at hz
      · simp at hz
      · rename_i hneg
        simp at hz; subst hz
        refine ⟨_, ?_, .int _ _⟩
        simp [Go.binOp, Op.shift, hneg]
    case shr =>
      simp only [shI] at hz
      split at hz
      · simp at hz
      · rename_i hneg
        simp at hz; subst hz
        refine ⟨_, ?_, .int _ _⟩
        simp [Go.binOp, Op.shift, hneg]
    all_goals
      simp only at hz
      split at hz
      · rename_i hk
        subst hk
        simp only [arI, cmpI] at hz
        first
          | (simp only [Option.map_some, Option.some.injEq] at hz; subst hz
             exact ⟨_, by simp only [Go.binOp, Op.intArith, Op.intBits, Op.intCmp, ne_eq, not_true_eq_false, if_false]; try rfl, by first | exact .int _ _ | exact .bool _⟩)
          | (split at hz
             · simp at hz
             · rename_i h0
               simp at hz; subst hz
               exact ⟨_, by simp only [Go.binOp, Op.intDiv, h0, ne_eq, not_true_eq_false, if_false]; try rfl, .int _ _⟩)
      · simp at hz
  · rename_i s s'
    generalize hps : AV.str s = ps at hp
    generalize hqs : AV.str s' = qs at hq
    cases hp <;> try (simp at hps; done)
    cases hq <;> try (simp at hqs; done)
    rename_i bs bs'
    simp at hps hqs
    subst hps; subst hqs
    simp only [Sem.run_bind, eqGuard_str (C := C) (w := w), Result.andThen_ok]
    cases op
    case add =>
      simp only at hz
      split at hz
      · rename_i hle
        simp only [Option.some.injEq] at hz
        subst hz
        have hm : IntKind.i64.max = 9223372036854775807 := rfl
        have hsz : ∀ b : ByteArray, b.data.toList.length = b.size := fun b => Array.length_toList
        rw [hsz, hsz] at hle
        have hn : ¬ (((bs.size + bs'.size : Nat) : Int) > IntKind.i64.max) := by rw [hm]; omega
        refine ⟨.string (bs ++ bs'), ?_, ?_⟩
        · simp only [Go.binOp, Op.stringOp, if_neg hn, Sem.run_pure]
        · have : bs.data.toList ++ bs'.data.toList = (bs ++ bs').data.toList := by simp
          rw [this]; exact .str _
      · simp at hz
    all_goals first
      | (simp only [Option.some.injEq] at hz; subst hz
         exact ⟨_, by simp only [Go.binOp, Op.stringOp, ByteArray.toList_eq, Sem.run_pure, strLess_eq]; try rfl, .bool _⟩)
      | (simp at hz; done)
  · rename_i k m k' m'
    cases hp; cases hq
    split at hz
    · rename_i hk
      subst hk
      have hg : (eqGuard op t x y (.float k m) (.float k m')).run C.P w = .ok () w := by cases op <;> simp [eqGuard]
      simp only [Sem.run_bind, hg, Result.andThen_ok]
      cases op <;> simp only [fltAV, Option.map_eq_some_iff, Option.some.injEq, reduceCtorEq] at hz
      all_goals first
        | (obtain ⟨r, hr, rfl⟩ := hz
           exact ⟨.float k r, by simp [Go.binOp, Op.floatArith, hr], .flt _ _⟩)
        | (subst hz
           exact ⟨_, by simp only [Go.binOp, Op.floatCmp, ne_eq, not_true_eq_false, if_false]; rfl, .bool _⟩)
    · simp at hz
  · simp at hz

theorem un_sim {op : UnOp} {p z : AV} (hz : unAV op p = some z) {u : Value} (hp : VR C g p u) : ∃ r, (Op.unary op u).run C.P w = .ok r w ∧ VR C g z r := by
  unfold unAV at hz
  split at hz
  · cases hp; simp at hz; subst hz; exact ⟨_, rfl, .bool _⟩
  · cases hp; simp only [Option.some.injEq] at hz; subst hz; exact ⟨_, rfl, .int _ _⟩
  · cases hp; simp only [Option.some.injEq] at hz; subst hz; exact ⟨_, rfl, .int _ _⟩
  · simp at hz

theorem cvi_sim {src dst : TypeId} {k k' : IntKind} {m : Int} {u : Value} {d : TypeDesc} (hs : C.P.underlying src = some d) (hd : C.P.underlying dst = some (.int k)) (hp : VR C g (.int k' m) u) :
    (Go.convert src dst u).run C.P w = .ok (.int k (k.wrap m)) w := by
  cases hp
  simp [Go.convert, run_underlying hs, run_underlying hd, Conv.intToInt]

/-- a part of a value that is an aggregate -/
theorem part_val {t : TypeId} {sz off : Nat} {ag : Bool} (ht : TyIs C.P t sz ag) {cs : List AV} {x : AV} (hp : part sz ag cs off = some x) {ws : Array Value} (hl : cs.length = ws.size)
    (h1 : ∀ c ∈ cs, c.one = true) (hv : ∀ (i : Nat) (x : AV) (y : Value), cs[i]? = some x → ws[i]? = some y → VR C g x y) :
    ∃ v, (Go.part t ws off).run C.P w = .ok v w ∧ VR C g x v := by
  have hle := part_len hp ht.one
  have hr := (part_rel (C := C) (g := g) hp (vs := (ws.toList.drop off).take sz) (by simp; omega) ht.one h1 (fun j y v hy hj => by
    have hj' : j < sz := by
      have := (List.getElem?_eq_some_iff.1 hj).1
      simp at this; omega
    rw [List.getElem?_take, if_pos hj', List.getElem?_drop] at hj
    exact hv _ _ _ hy (by simpa using hj))).1
  refine ⟨_, ?_, hr⟩
  simp only [Go.part, Sem.run_bind, ht.run_isAgg, Result.andThen_ok]
  cases ag with
  | true =>
    simp only [if_true, Sem.run_bind, ht.run_size, Result.andThen_ok]
    simp only [Sem.run_pure]
    congr 2
    apply Array.ext'
    simp [Array.toList_extract, List.extract_eq_take_drop]
  | false =>
    have h2 := ht.one rfl
    subst h2
    have hlt : off < ws.size := by omega
    simp [hlt]
    have : ((List.drop off ws.toList).take 1).headD undef = ws[off] := by
      rw [List.drop_eq_getElem_cons (by simpa using hlt)]; simp
    simpa using this.symm

theorem agg_inv {cs : List AV} {v : Value} (h : VR C g (.agg cs) v) : ∃ ws, v = .agg ws ∧ cs.length = ws.size ∧ (∀ c ∈ cs, c.one = true) ∧
    ∀ (i : Nat) (x : AV) (y : Value), cs[i]? = some x → ws[i]? = some y → VR C g x y := by
  cases h with
  | agg _ ws hl h1 hv => exact ⟨ws, rfl, hl, h1, hv⟩

theorem fld_sim {t : TypeId} {k off sz : Nat} {ag : Bool} (ht : fieldOK C.P t k off sz ag = true) {cs : List AV} {z : AV} (hp : part sz ag cs off = some z) {u : Value} (hu : VR C g (.agg cs) u) :
    ∃ v, (Instr.field t u k).run C.P w = .ok v w ∧ VR C g z v := by
  unfold fieldOK at ht
  split at ht
  · rename_i fs hund
    split at ht
    · rename_i f hf
      simp only [Bool.and_eq_true, beq_iff_eq] at ht
      obtain ⟨ws, rfl, hl, h1, hv⟩ := agg_inv hu
      obtain ⟨v, h2, h3⟩ := part_val (w := w) (tyIs ht.2) hp hl h1 hv
      exact ⟨v, by simp [Instr.field, run_underlying hund, hf, asAgg, ht.1, h2], h3⟩
    · simp at ht
  · simp at ht

theorem ixa_sim {t : TypeId} {m sz : Nat} {ag : Bool} (ht : arrOK C.P t m sz ag = true) {k : IntKind} {i : Int} (h0 : 0 ≤ i) (hm : i < m) {cs : List AV} {z : AV} (hp : part sz ag cs (i.toNat * sz) = some z) {u j : Value}
    (hu : VR C g (.agg cs) u) (hj : VR C g (.int k i) j) : ∃ v, (Instr.index t u j).run C.P w = .ok v w ∧ VR C g z v := by
  unfold arrOK at ht
  split at ht
  · rename_i m' e hund
    simp only [Bool.and_eq_true, beq_iff_eq] at ht
    obtain ⟨rfl, ht⟩ := ht
    have hty := tyIs ht
    obtain ⟨ws, rfl, hl, h1, hv⟩ := agg_inv hu
    cases hj
    obtain ⟨v, h2, h3⟩ := part_val (w := w) hty hp hl h1 hv
    exact ⟨v, by simp [Instr.index, asIntOf, run_underlying hund, h0, hm, hty.run_size, h2], h3⟩
  · simp at ht

theorem str_inv {s : List UInt8} {v : Value} (h : VR C g (.str s) v) : ∃ b : ByteArray, v = .string b ∧ b.data.toList = s := by
  generalize hq : AV.str s = q at h
  cases h <;> try (simp at hq; done)
  simp at hq
  exact ⟨_, rfl, hq.symm⟩

theorem ixs_sim {t : TypeId} (ht : C.P.underlying t = some .string) {k : IntKind} {i : Int} (h0 : 0 ≤ i) {s : List UInt8} {b : UInt8} (hb : s[i.toNat]? = some b) {u j : Value}
    (hu : VR C g (.str s) u) (hj : VR C g (.int k i) j) : ∃ v, (Instr.index t u j).run C.P w = .ok v w ∧ VR C g (.int .u8 b.toNat) v := by
  obtain ⟨bs, rfl, hs⟩ := str_inv hu
  cases hj
  have hg : bs[i.toNat]? = some b := by
    rw [← hs] at hb
    have hlt := (List.getElem?_eq_some_iff.1 hb).1
    have hlt' : i.toNat < bs.size := by rw [Array.length_toList] at hlt; exact hlt
    rw [List.getElem?_eq_getElem hlt] at hb
    rw [getElem?_pos bs i.toNat hlt', ← hb]
    rfl
  exact ⟨_, by simp [Instr.index, asIntOf, run_underlying ht, h0, hg], .int _ _⟩

end
end Ey
