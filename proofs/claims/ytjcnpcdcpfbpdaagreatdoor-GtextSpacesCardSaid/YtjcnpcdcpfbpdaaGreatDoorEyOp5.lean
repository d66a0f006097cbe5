/- Lengths, texts sliced, tuples, interfaces, functions, aggregates built: what the model does, out of what ours does. -/
import Derived.Test.YtjcnpcdcpfbpdaaGreatDoorEyOp4
namespace Ey
open Go Go.RowKit

section
variable {C : Cx} {g : Gh} {own : Own} {B : Nat} {H : Heap} {w : World} {env : Env} {a : Act} {n : Nat} {L : List Nat}

theorem len_sim {t : TypeId} {e : TypeId} (ht : C.P.underlying t = some (.slice e)) {x : AV} {k : Nat} (hz : lenAV x = some k) {v : Value} (hx : VR C g x v) (ty : TypeId) :
    (Builtin.len_ #[t] ty #[v]).run C.P w = .ok (.int .i64 k) w := by
  unfold lenAV at hz
  split at hz
  · simp at hz; subst hz
    cases hx <;> simp [Builtin.len_, run_underlying ht, goInt]
  · simp at hz; subst hz
    cases hx; simp [Builtin.len_, run_underlying ht, goInt]
  · simp at hz; subst hz
    cases hx <;> simp [Builtin.len_, run_underlying ht, goInt]
  · simp at hz

theorem lns_sim {t : TypeId} (ht : C.P.underlying t = some .string) {s : List UInt8} {v : Value} (hx : VR C g (.str s) v) (ty : TypeId) :
    (Builtin.len_ #[t] ty #[v]).run C.P w = .ok (.int .i64 s.length) w := by
  obtain ⟨b, rfl, rfl⟩ := str_inv hx
  have : (b.data.toList.length : Int) = (b.size : Int) := congrArg _ Array.length_toList
  rw [this]
  simp [Builtin.len_, run_underlying ht, goInt]

theorem ss_sim {t : TypeId} (ht : C.P.underlying t = some .string) {s : List UInt8} {lo hi : Option AV} {l h : Nat} (hz : slBounds s.length lo hi = some (l, h)) {v : Value} {vl vh : Option Value}
    (hx : VR C g (.str s) v) (hl : OptR C g lo vl) (hh : OptR C g hi vh) : ∃ r, (Instr.slice t v vl vh none).run C.P w = .ok r w ∧ VR C g (.str ((s.drop l).take (h - l))) r := by
  obtain ⟨b, rfl, rfl⟩ := str_inv hx
  have hs : b.data.toList.length = b.size := Array.length_toList
  obtain ⟨h1, h2, h3⟩ := bounds_run (w := w) (cap := b.size) hz hl hh (by omega) false
  rw [hs] at h1
  refine ⟨.string (b.extract l h), by simp [Instr.slice, run_underlying ht, h1], ?_⟩
  have : (b.data.toList.drop l).take (h - l) = (b.extract l h).data.toList := by
    simp [ByteArray.data_extract, Array.toList_extract, List.extract_eq_take_drop]
  rw [this]
  exact .str _

theorem ext_sim {vs : List AV} {i : Nat} {x : AV} (hx : vs[i]? = some x) {v : Value} (hv : VR C g (.tup vs) v) : ∃ r, (Instr.extract v i).run C.P w = .ok r w ∧ VR C g x r := by
  cases hv with
  | tup _ ws hl hr =>
    have hlt : i < ws.size := by
      have := (List.getElem?_eq_some_iff.1 hx).1
      omega
    exact ⟨ws[i], by simp [Instr.extract, hlt], hr i x _ hx (by simp [hlt])⟩

def concOK (P : Program) (t : TypeId) : Bool :=
  match P.underlying t with
  | some (.interface _) => false
  | some _ => true
  | none => false

theorem conc_is {P : Program} {t : TypeId} (h : concOK P t = true) : ∃ d, P.underlying t = some d ∧ ∀ ms, d ≠ .interface ms := by
  unfold concOK at h
  split at h
  · simp at h
  · rename_i d _ hd; exact ⟨d, hd, fun ms e => by subst e; simp_all⟩
  · simp at h

theorem mkif_sim {t : TypeId} {tag : Nat} (ht : concOK C.P t = true) (hm : C.tm tag = some t) {x : AV} {v : Value} (hx : VR C g x v) :
    ∃ r, (Instr.makeInterface t v).run C.P w = .ok r w ∧ VR C g (.iface tag x) r := by
  obtain ⟨d, hd, hn⟩ := conc_is ht
  refine ⟨.iface t v, ?_, .iface tag x t v hm hx⟩
  simp only [Instr.makeInterface, Sem.run_bind, run_underlying hd, Result.andThen_ok]
  cases d <;> first | rfl | exact absurd rfl (hn _)

def zeroOK (P : Program) (t : TypeId) (z : AV) : Bool :=
  match P.info? t with
  | some i => match i.zero with
    | some v => cv v z
    | none => false
  | none => false

theorem zero_run {t : TypeId} {z : AV} (h : zeroOK C.P t z = true) (g : Gh) (w : World) : ∃ v, (zeroValue t).run C.P w = .ok v w ∧ VR C g z v := by
  unfold zeroOK at h
  split at h
  · rename_i i hi
    split at h
    · rename_i v hv
      exact ⟨v, by simp [zeroValue, typeInfo, hi, hv], cv_rel h⟩
    · simp at h
  · simp at h

theorem tas_sim {xt t : TypeId} {tag : Nat} {z : AV} {ok : Bool} (ht : concOK C.P t = true) (hm : C.tm tag = some t) (hzero : ok = true → zeroOK C.P t z = true) {x : AV} {r : AV}
    (hz : (match x with
      | .iface t' v => if t' = tag then some (if ok then .tup [v, .bool true] else v) else if ok then some (.tup [z, .bool false]) else none
      | .niliface => if ok then some (.tup [z, .bool false]) else none
      | _ => none) = some r) {v : Value} (hx : VR C g x v) : ∃ u, (Instr.typeAssert v xt t ok).run C.P w = .ok u w ∧ VR C g r u := by
  obtain ⟨d, hd, hn⟩ := conc_is ht
  have pair : ∀ {p q : AV} {u u' : Value}, VR C g p u → VR C g q u' → VR C g (.tup [p, q]) (.tuple #[u, u']) := by
    intro p q u u' h1 h2
    refine .tup _ _ rfl (fun i x y hx hy => ?_)
    match i with
    | 0 => simp at hx hy; subst hx; subst hy; exact h1
    | 1 => simp at hx hy; subst hx; subst hy; exact h2
    | i + 2 => simp at hx
  split at hz
  · rename_i t' v'
    cases hx with
    | iface _ _ tid u htid hv =>
      split at hz
      · rename_i he
        subst he
        simp at hz; subst hz
        obtain rfl : tid = t := by rw [hm] at htid; simpa using htid.symm
        cases ok
        · refine ⟨u, ?_, hv⟩
          simp only [Instr.typeAssert, Sem.run_bind, run_underlying hd, Result.andThen_ok]
          cases d <;> first | (simp; done) | exact absurd rfl (hn _)
        · refine ⟨.tuple #[u, .bool true], ?_, pair hv (.bool _)⟩
          simp only [Instr.typeAssert, Sem.run_bind, run_underlying hd, Result.andThen_ok]
          cases d <;> first | (simp; done) | exact absurd rfl (hn _)
      · rename_i he
        split at hz
        · rename_i hok
          subst hok
          simp at hz; subst hz
          obtain ⟨zv, h1, h2⟩ := zero_run (hzero rfl) g w
          have hne : tid ≠ t := fun e => he (C.inj _ _ t (e ▸ htid) hm)
          refine ⟨.tuple #[zv, .bool false], ?_, pair h2 (.bool _)⟩
          simp only [Instr.typeAssert, Sem.run_bind, run_underlying hd, Result.andThen_ok]
          cases d <;> first | (simp [hne, h1]; done) | exact absurd rfl (hn _)
        · simp at hz
  · cases hx
    split at hz
    · rename_i hok
      subst hok
      simp at hz; subst hz
      obtain ⟨zv, h1, h2⟩ := zero_run (hzero rfl) g w
      refine ⟨.tuple #[zv, .bool false], ?_, pair h2 (.bool _)⟩
      simp only [Instr.typeAssert, Sem.run_bind, run_underlying hd, Result.andThen_ok]
      cases d <;> first | (simp [h1]; done) | exact absurd rfl (hn _)
    · simp at hz
  · simp at hz

theorem mnmx_sim {mx : Bool} {k : IntKind} {p q : Int} {u v : Value} (hu : VR C g (.int k p) u) (hv : VR C g (.int k q) v) (ts : Array TypeId) (t : TypeId) :
    ((if mx then Builtin.max_ ts t #[u, v] else Builtin.min_ ts t #[u, v])).run C.P w = .ok (.int k (if mx then max p q else min p q)) w := by
  cases hu; cases hv
  cases mx
  · simp only [Bool.false_eq_true, if_false, Builtin.min_, List.foldlM, Builtin.min2, Sem.run_bind, Sem.run_pure, Result.andThen_ok]
    congr 2
    split <;> omega
  · simp only [if_true, Builtin.max_, List.foldlM, Builtin.max2, Sem.run_bind, Sem.run_pure, Result.andThen_ok]
    congr 2
    split <;> omega

theorem mnmx3_sim {mx : Bool} {p q r : Int} {u v x : Value} (hu : VR C g (.int .i64 p) u) (hv : VR C g (.int .i64 q) v) (hx : VR C g (.int .i64 r) x) (ts : Array TypeId) (t : TypeId) :
    ((if mx then Builtin.max_ ts t #[u, v, x] else Builtin.min_ ts t #[u, v, x])).run C.P w = .ok (.int .i64 (if mx then max (max p q) r else min (min p q) r)) w := by
  cases hu; cases hv; cases hx
  cases mx
  · simp only [Bool.false_eq_true, if_false, Builtin.min_, List.foldlM, Builtin.min2, Sem.run_bind, Sem.run_pure, Result.andThen_ok]
    congr 2
    split <;> split <;> omega
  · simp only [if_true, Builtin.max_, List.foldlM, Builtin.max2, Sem.run_bind, Sem.run_pure, Result.andThen_ok]
    congr 2
    split <;> split <;> omega
theorem nat3 {mx : Bool} {vs : List AV} {z : AV} (h : natAV (if mx then 6 else 5) vs = some z) : ∃ p q r : Int, vs = [.int .i64 p, .int .i64 q, .int .i64 r] ∧ z = .int .i64 (if mx then max (max p q) r else min (min p q) r) := by
  cases mx
  · simp only [Bool.false_eq_true, if_false] at h ⊢
    unfold natAV at h
    split at h <;> first
      | (rename_i he; exact absurd he (by decide))
      | (simp only [Option.some.injEq] at h; subst h; exact ⟨_, _, _, rfl, rfl⟩)
      | cases h
  · simp only [if_true] at h ⊢
    unfold natAV at h
    split at h <;> first
      | (rename_i he; exact absurd he (by decide))
      | (simp only [Option.some.injEq] at h; subst h; exact ⟨_, _, _, rfl, rfl⟩)
      | cases h

theorem all_rel (hF : Fr C g own w env a.tmps n L) : ∀ {xs : List Operand} {ys : List Opd}, opdsOK C xs ys = true → ∀ {vs : List AV}, allAV env ys = some vs →
    vs.length = xs.length ∧ ∀ (i : Nat) (x : AV) (y : Value), vs[i]? = some x → (xs.map a.eval)[i]? = some y → VR C g x y
  | [], [], _, vs, hv => by simp [allAV] at hv; subst hv; exact ⟨rfl, fun i x y hx => by simp at hx⟩
  | [], _ :: _, h, _, _ => by simp [opdsOK] at h
  | _ :: _, [], h, _, _ => by simp [opdsOK] at h
  | x :: xs, y :: ys, h, vs, hv => by
    simp only [opdsOK, Bool.and_eq_true] at h
    simp only [allAV] at hv
    split at hv
    · simp at hv
    · rename_i v h1
      simp only [Option.map_eq_some_iff] at hv
      obtain ⟨us, h2, rfl⟩ := hv
      obtain ⟨h3, h4⟩ := all_rel hF h.2 h2
      refine ⟨by simp [h3], fun i p q hp hq => ?_⟩
      cases i with
      | zero => simp at hp hq; subst hp; subst hq; exact av_rel hF h.1 h1
      | succ i => exact h4 i p q (by simpa using hp) (by simpa using hq)

theorem opt_rel (hF : Fr C g own w env a.tmps n L) {x : Option Operand} {y : Option Opd} (h : optOK C x y = true) {z : Option AV} (hz : optAV env y = some z) : OptR C g z (x.map a.eval) := by
  cases x <;> cases y <;> simp [optOK] at h
  · simp [optAV] at hz; subst hz; trivial
  · rename_i o o'
    simp only [optAV, Option.map_eq_some_iff] at hz
    obtain ⟨q, hq, rfl⟩ := hz
    exact av_rel hF h hq

theorem bytes_run {xs : List AV} {s : List UInt8} (h : xs.mapM byteOf = some s) : ∀ (ws : List Value) (acc : ByteArray), xs.length = ws.length →
    (∀ (i : Nat) (x : AV) (y : Value), xs[i]? = some x → ws[i]? = some y → VR C g x y) →
    (forIn ws acc (fun c r => do
      let .int .u8 n := c | stuck "bytesToString: byte expected"
      pure (.yield (r.push (UInt8.ofNat n.toNat))) : Value → ByteArray → Sem (ForInStep ByteArray))).run C.P w = .ok ⟨(acc.data.toList ++ s).toArray⟩ w := by
  induction xs generalizing s with
  | nil =>
    intro ws acc hl _
    cases ws with
    | nil => simp at h; subst h; simp
    | cons _ _ => simp at hl
  | cons x xs ih =>
    intro ws acc hl hr
    cases ws with
    | nil => simp at hl
    | cons v ws =>
      simp only [List.mapM_cons, Option.bind_eq_bind, Option.bind_eq_some_iff] at h
      obtain ⟨b, hb, r, hr', hs⟩ := h
      simp at hs; subst hs
      have hx := hr 0 x v rfl rfl
      unfold byteOf at hb
      split at hb
      · rename_i m
        split at hb
        · simp at hb; subst hb
          cases hx
          have := ih hr' ws (acc.push (UInt8.ofNat m.toNat)) (by simpa using hl) (fun i x y hx hy => hr (i + 1) x y (by simpa using hx) (by simpa using hy))
          simp only [List.forIn_cons, Sem.run_bind, Sem.run_pure, Result.andThen_ok]
          rw [this]
          simp
        · simp at hb
      · simp at hb

end
end Ey
