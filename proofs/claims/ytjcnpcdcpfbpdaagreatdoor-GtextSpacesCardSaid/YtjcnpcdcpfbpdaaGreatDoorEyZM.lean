/- The fast form: maps. -/
import Derived.Test.YtjcnpcdcpfbpdaaGreatDoorEyZ5
namespace Ey
open Go (IntKind FloatKind BinOp UnOp)

/-! ### keys -/
/-- a map's number -/
noncomputable def mpA (d : FR) (f : Nat → FR) (y : AV) : FR := @AV.casesOn (fun _ => FR) y d (fun _ => d) (fun _ _ => d) (fun _ => d) (fun _ _ => d) (fun _ _ => d) d (fun _ _ _ _ => d) (fun _ => d) d (fun _ _ => d) (fun _ _ _ _ => d) (fun _ _ => d) d (fun _ _ => d) d (fun _ => d) (fun _ => d) (fun id => f id) d
noncomputable def mpK (v : V) (d : FR) (f : Nat → FR) : FR := @V.rec (fun _ => FR) (fun _ => d) (fun _ => d) (fun _ _ => d) (fun _ _ => d) (fun y => mpA d f y) (fun _ _ _ => d) d (fun _ _ _ _ => d) (fun _ _ => d) d (fun _ _ => d) (fun _ _ _ _ => d) (fun _ _ _ => d) d (fun _ _ _ => d) d (fun _ _ => d) (fun _ _ => d) d (fun _ _ _ _ => d) (fun _ _ _ _ _ => d) d d d (fun _ _ => d) (fun _ _ => d) v
theorem mpK_ok {P : FR → Prop} {v : V} {r : Option AV} (hv : v.val r) {d : FR} {f : Nat → FR} (hd : P d) (hf : ∀ id, r = some (.mp id) → P (f id)) : P (mpK v d f) := by
  cases v with
  | x y =>
    have h := hv _ rfl
    cases y with
    | mp id => exact hf id h
    | _ => exact hd
  | _ => exact hd
/-- two numbers -/
noncomputable def nuE (a b : V) (d : FR) (f : Bool → FR) : FR := numK a d (fun x => numK b d (fun y => f (Nat.beq x y)) (fun _ _ => d) (fun _ _ => d)) (fun k x => numK b d (fun _ => d) (fun k' y => ifB (Nat.beq k k') d (f (Nat.beq x y))) (fun _ _ => d)) (fun _ _ => d)
theorem nuE_ok {P : FR → Prop} {a b : V} {r r' : Option AV} (ha : a.val r) (hb : b.val r') {d : FR} {f : Bool → FR} (hd : P d) (hf : ∀ (k : IntKind) (x y : Int), r = some (.int k x) → r' = some (.int k y) → P (f (x == y))) : P (nuE a b d f) := by
  refine numK_ok ha hd (fun n hn => numK_ok hb hd (fun m hm => ?_) (fun _ _ _ => hd) (fun _ _ _ => hd)) (fun k n hn => numK_ok hb hd (fun _ _ => hd) (fun k' m hm => ?_) (fun _ _ _ => hd)) (fun _ _ _ => hd)
  · have := hf .i64 _ _ hn hm
    have e : Nat.beq n m = ((n : Int) - 9223372036854775808 == (m : Int) - 9223372036854775808) := by
      rw [beq_dec, Bool.eq_iff_iff]; simp; omega
    rw [e]; exact this
  · rw [ifB_beq]
    split
    · rename_i hk
      subst hk
      have := hf (kk k) _ _ hn hm
      have e : Nat.beq n m = ((n : Int) == (m : Int)) := by
        rw [beq_dec, Bool.eq_iff_iff]; simp; omega
      rw [e]; exact this
    · exact hd
/-- lists of numbers, one by one -/
noncomputable def keL (s : FR) (f : Bool → FR) : V → V → FR := clRec (fun b => clRec (f true) (fun _ _ _ => s) (fun _ _ _ _ _ => s) b) (fun h _ ih b => unK b s fun h' t' => nuE h h' s fun r => @Bool.rec (fun _ => FR) (f false) (ih t') r) (fun _ _ _ _ _ _ => s)
theorem keL_ok {P : FR → Prop} {s : FR} {f : Bool → FR} (hs : P s) : ∀ (a b : V), (∀ r, eqCells (List.replicate a.cl.length .i) a.cl b.cl = some r → P (f r)) → P (keL s f a b) := by
  refine cl_cases (P := fun a => ∀ b, (∀ r, eqCells (List.replicate a.cl.length .i) a.cl b.cl = some r → P (f r)) → P (keL s f a b)) (fun h t ih b hf => ?_) (fun k l n t ih b hf => ?_) (fun v h0 h1 b hf => ?_)
  · refine unK_ok (P := P) hs fun h' t' hb => ?_
    subst hb
    show P (nuE h h' s fun r => @Bool.rec (fun _ => FR) (f false) (keL s f t t') r)
    by_cases hp : h.pv = some h.av
    · by_cases hp' : h'.pv = some h'.av
      · refine nuE_ok (r := some h.av) (r' := some h'.av) (fun a ha => by rw [← ha, hp]) (fun a ha => by rw [← ha, hp']) hs fun k x y hx hy => ?_
        simp only [Option.some.injEq] at hx hy
        have e : ∀ r, eqCells (List.replicate (V.one h t).cl.length .i) (V.one h t).cl (V.one h' t').cl = r ↔ (match some (x == y) with
            | some true => eqCells (List.replicate t.cl.length .i) t.cl t'.cl
            | some false => some false
            | none => none) = r := fun r => by
          simp only [V.cl, List.length_cons, List.replicate_succ, eqCells, hx, hy, eqCell, if_true]
          exact Iff.rfl
        cases hxy : (x == y) with
        | true =>
          rw [hxy] at e
          exact ih t' fun r hr => hf r ((e _).2 hr)
        | false =>
          rw [hxy] at e
          exact hf false ((e _).2 rfl)
      · have : nuE h h' s (fun r => @Bool.rec (fun _ => FR) (f false) (keL s f t t') r) = s := by
          cases h' <;> first | exact absurd rfl hp' | (cases h <;> rfl)
        rw [this]; exact hs
    · have : nuE h h' s (fun r => @Bool.rec (fun _ => FR) (f false) (keL s f t t') r) = s := by
        cases h <;> first | exact absurd rfl hp | rfl
      rw [this]; exact hs
  · exact hs
  · have hk : keL s f v b = clRec (f true) (fun _ _ _ => s) (fun _ _ _ _ _ => s) b := congrFun (h0 (fun b => clRec (f true) (fun _ _ _ => s) (fun _ _ _ _ _ => s) b) _ _) b
    rw [hk]
    revert hf
    refine cl_cases (P := fun b => (∀ r, eqCells (List.replicate v.cl.length .i) v.cl b.cl = some r → P (f r)) → P (clRec (f true) (fun _ _ _ => s) (fun _ _ _ _ _ => s) b)) (fun _ _ _ _ => hs) (fun _ _ _ _ _ _ => hs) (fun w k0 k1 hf => ?_) b
    rw [k0]
    exact hf true (by rw [h1, k1]; rfl)
/-- two keys -/
noncomputable def keyZ (n : Nat) (a b : V) (f : Bool → FR) : FR := @Nat.rec (fun _ => FR) (nuE a b .bad f) (fun p _ => agK a .bad fun c => agK b .bad fun c' => ifB (Nat.beq (lenC c') (Nat.succ p)) .bad (keL (eqS (List.replicate (Nat.succ p) .i) c c' f) f c c')) n
theorem keyZ_ok {q : Pr} {n : Nat} {a b : V} {x y : AV} (ha : a.val (some x)) (hb : b.val (some y)) (hx : keyOK n x = true) {f : Bool → FR} (hf : ∀ r, keyEq x y = some r → Agr (f r) q) : Agr (keyZ n a b f) q := by
  cases n with
  | zero =>
    refine nuE_ok (P := fun r => Agr r q) ha hb q.bad fun k u v hu hv => hf _ ?_
    simp only [Option.some.injEq] at hu hv
    rw [hu, hv]; simp [keyEq]
  | succ n =>
    refine agK_ok (P := fun r => Agr r q) ha q.bad fun c hc => agK_ok (P := fun r => Agr r q) hb q.bad fun c' hc' => ?_
    simp only [Option.some.injEq] at hc hc'
    subst hc; subst hc'
    have hl : c.cl.length = n + 1 := by
      unfold keyOK at hx
      simp only [Bool.and_eq_true, beq_iff_eq] at hx
      exact hx.1.1
    rw [ifB_beq, lenC_eq]
    split
    · rename_i hlen
      have key : ∀ r, eqCells (List.replicate c.cl.length .i) c.cl c'.cl = some r → Agr (f r) q := fun r hr => hf r (by simp only [keyEq]; rw [if_pos (by omega), hr])
      refine keL_ok (P := fun r => Agr r q) ?_ c c' key
      simp only [eqS]
      cases hr : eqAV (.agg (List.replicate (n + 1) .i)) (.agg c.cl) (.agg c'.cl) with
      | none => exact q.bad
      | some r =>
        simp only [eqAV, List.length_replicate] at hr
        split at hr
        · exact key r (by rw [hl]; exact hr)
        · cases hr
    · exact q.bad
/-- is a value a key? -/
noncomputable def alN (s : FR) : V → Nat → FR := clRec (fun m => @Nat.rec (fun _ => FR) s (fun _ _ => .bad) m) (fun h _ ih m => @Nat.rec (fun _ => FR) .bad (fun p _ => numK h .bad (fun _ => ih p) (fun _ _ => ih p) (fun _ _ => .bad)) m)
  (fun k l _ _ ih m => @Bool.rec (fun _ => FR) (ifB (Nat.ble l m) .bad (ih (Nat.sub m l))) .bad (Nat.beq k 1))
def isI : AV → Bool
  | .int _ _ => true
  | _ => false
theorem digs_isI (k : Nat) (hk : k ≠ 1) : ∀ l n, (digs k l n).all isI = true
  | 0, _ => rfl
  | l + 1, n => by
    simp only [digs, List.all_cons, digs_isI k hk l, Bool.and_true]
    match k, hk with
    | 0, _ => rfl
    | 1, h => exact absurd rfl h
    | k + 2, _ => rfl
theorem alN_ok {q : Pr} {s : FR} : ∀ (c : V) (m : Nat), (c.cl.length = m → c.cl.all isI = true → Agr s q) → Agr (alN s c m) q := by
  refine cl_cases (P := fun c => ∀ m, (c.cl.length = m → c.cl.all isI = true → Agr s q) → Agr (alN s c m) q) (fun h t ih m hs => ?_) (fun k l n t ih m hs => ?_) (fun v h0 h1 m hs => ?_)
  · cases m with
    | zero => exact q.bad
    | succ m =>
      have go : isI h.av = true → Agr (alN s t m) q := fun hi => ih m fun h1 h2 => hs (by simp only [V.cl, List.length_cons, h1]) (by simp only [V.cl, List.all_cons, hi, h2, Bool.and_self])
      refine numK_ok (P := fun r => Agr r q) (r := some h.av) (v := h) ?_ q.bad (fun n hn => go (by simp only [Option.some.injEq] at hn; rw [hn]; rfl)) (fun k n hn => go (by simp only [Option.some.injEq] at hn; rw [hn]; rfl)) (fun _ _ _ => q.bad)
      intro a ha
      have := (V.pv_sl ha).2.1
      rw [this]
  · show Agr (@Bool.rec (fun _ => FR) (ifB (Nat.ble l m) .bad (alN s t (Nat.sub m l))) .bad (Nat.beq k 1)) q
    cases hk : Nat.beq k 1 with
    | true => exact q.bad
    | false =>
      have hk' := Nat.ne_of_beq_eq_false hk
      show Agr (ifB (Nat.ble l m) .bad (alN s t (Nat.sub m l))) q
      rw [ifB_ble]
      split
      · rename_i hl
        refine ih _ fun h1 h2 => hs (by simp only [V.cl, List.length_append, digs_length, h1]; exact Nat.add_sub_cancel' hl) (by simp only [V.cl, List.all_append, digs_isI k hk', h2, Bool.and_self])
      · exact q.bad
  · have : alN s v m = @Nat.rec (fun _ => FR) s (fun _ _ => .bad) m := congrFun (h0 (fun m => @Nat.rec (fun _ => FR) s (fun _ _ => .bad) m) _ _) m
    rw [this]
    cases m with
    | zero => exact hs (by rw [h1]; rfl) (by rw [h1]; rfl)
    | succ m => exact q.bad
noncomputable def koK (n : Nat) (a : V) (s : FR) : FR := @Nat.rec (fun _ => FR) (numK a .bad (fun _ => s) (fun _ _ => s) (fun _ _ => .bad)) (fun p _ => agK a .bad fun c => alN s c (Nat.succ p)) n
theorem koK_ok {q : Pr} {n : Nat} {a : V} {r : Option AV} (ha : a.val r) {s : FR} (hs : ∀ x, r = some x → keyOK n x = true → Agr s q) : Agr (koK n a s) q := by
  cases n with
  | zero => exact numK_ok (P := fun r => Agr r q) ha q.bad (fun n hn => hs _ hn rfl) (fun k n hn => hs _ hn rfl) (fun _ _ _ => q.bad)
  | succ n =>
    refine agK_ok (P := fun r => Agr r q) ha q.bad fun c hc => alN_ok c _ fun h1 h2 => hs _ hc ?_
    simp only [keyOK, Bool.and_eq_true, beq_iff_eq, decide_eq_true_eq]
    refine ⟨⟨h1, by omega⟩, ?_⟩
    rw [List.all_eq_true] at h2 ⊢
    intro x hx
    have := h2 x hx
    cases x <;> first | rfl | cases this

/-! ### entries -/
noncomputable def mfC (n : Nat) (kv : V) (no : FR) (so : Nat → V → FR) : V → Nat → Nat → FR := clRec (fun ph _ => @Nat.rec (fun _ => FR) no (fun _ _ => .bad) ph)
  (fun h _ ih ph i => @Nat.rec (fun _ => FR) (keyZ n kv h fun r => @Bool.rec (fun _ => FR) (ih 2 i) (ih 1 i) r) (fun p _ => @Nat.rec (fun _ => FR) (vK h .bad (so i h)) (fun _ _ => ih 0 (Nat.succ i)) p) ph)
  (fun _ _ _ _ _ _ _ => .bad)
def mfP (q : Pr) (no : FR) (so : Nat → V → FR) (r : Option (Nat × AV)) : Prop := match r with
  | none => Agr no q
  | some (j, x) => ∀ v : V, v.av = x → v.pv = some x → Agr (so j v) q
theorem mfC_ok {q : Pr} {n : Nat} {kv : V} {x : AV} (hkv : kv.val (some x)) (hx : keyOK n x = true) {no : FR} {so : Nat → V → FR} : ∀ (c : V) (i : Nat), 
    ((∀ r, mpFind x (prs c.cl) i = some r → mfP q no so r) → Agr (mfC n kv no so c 0 i) q) ∧
    ((∀ y l, c.cl = y :: l → mfP q no so (some (i, y))) → Agr (mfC n kv no so c 1 i) q) ∧
    ((∀ y l, c.cl = y :: l → ∀ r, mpFind x (prs l) (i + 1) = some r → mfP q no so r) → Agr (mfC n kv no so c 2 i) q) := by
  refine cl_cases (P := fun c => ∀ i, ((∀ r, mpFind x (prs c.cl) i = some r → mfP q no so r) → Agr (mfC n kv no so c 0 i) q) ∧
    ((∀ y l, c.cl = y :: l → mfP q no so (some (i, y))) → Agr (mfC n kv no so c 1 i) q) ∧
    ((∀ y l, c.cl = y :: l → ∀ r, mpFind x (prs l) (i + 1) = some r → mfP q no so r) → Agr (mfC n kv no so c 2 i) q)) (fun h t ih i => ⟨fun hr => ?_, fun hr => ?_, fun hr => ?_⟩) (fun k l n t ih i => ⟨fun _ => q.bad, fun _ => q.bad, fun _ => q.bad⟩) (fun v h0 h1 i => ?_)
  · show Agr (keyZ n kv h fun r => @Bool.rec (fun _ => FR) (mfC n kv no so t 2 i) (mfC n kv no so t 1 i) r) q
    by_cases hp : h.pv = some h.av
    · refine keyZ_ok (x := x) (y := h.av) hkv (fun a ha => by rw [← ha, hp]) hx fun r hk => ?_
      have e : ∀ y l, t.cl = y :: l → mpFind x (prs (V.one h t).cl) i = match r with
          | true => some (some (i, y))
          | false => mpFind x (prs l) (i + 1) := fun y l ht => by
        simp only [V.cl, ht, prs, mpFind, hk]
        cases r <;> rfl
      cases r with
      | true => exact (ih i).2.1 fun y l ht => hr _ (e y l ht)
      | false => exact (ih i).2.2 fun y l ht r' h' => hr _ ((e y l ht).trans h')
    · have : (keyZ n kv h fun r => @Bool.rec (fun _ => FR) (mfC n kv no so t 2 i) (mfC n kv no so t 1 i) r) = .bad ∨ True := .inr trivial
      have bad : ∀ f : Bool → FR, Agr (keyZ n kv h f) q := fun f => by
        cases n with
        | zero =>
          show Agr (nuE kv h .bad f) q
          refine numK_ok (P := fun r => Agr r q) (r := some x) hkv q.bad (fun _ _ => ?_) (fun _ _ _ => ?_) (fun _ _ _ => q.bad) <;> (cases h <;> first | exact absurd rfl hp | exact q.bad)
        | succ n =>
          refine agK_ok (P := fun r => Agr r q) hkv q.bad fun c hc => ?_
          cases h <;> first | exact absurd rfl hp | exact q.bad
      exact bad _
  · refine vK_ok (P := fun r => Agr r q) q.bad fun hp => ?_
    exact hr h.av t.cl rfl h rfl hp
  · exact (ih (i + 1)).1 fun r hh => hr _ _ rfl r hh
  · have e : ∀ ph i, mfC n kv no so v ph i = @Nat.rec (fun _ => FR) no (fun _ _ => .bad) ph := fun ph i => congrFun (congrFun (h0 (fun ph _ => @Nat.rec (fun _ => FR) no (fun _ _ => .bad) ph) _ _) ph) i
    refine ⟨fun hr => ?_, fun _ => ?_, fun _ => ?_⟩
    · rw [e]; exact hr none (by rw [h1]; rfl)
    · rw [e]; exact q.bad
    · rw [e]; exact q.bad

theorem prs_set : ∀ (l : List AV) (i : Nat) (a b : AV), prs ((l.set (2 * i) a).set (2 * i + 1) b) = (prs l).set i (a, b)
  | [], i, a, b => by simp [prs]
  | [x], i, a, b => by cases i <;> simp [prs, Nat.mul_add]
  | x :: y :: l, 0, a, b => rfl
  | x :: y :: l, i + 1, a, b => by
    have e1 : 2 * (i + 1) = 2 * i + 1 + 1 := by omega
    have e2 : 2 * (i + 1) + 1 = 2 * i + 1 + 1 + 1 := by omega
    rw [e2, e1]
    simp only [List.set_cons_succ, prs, prs_set l i a b]
theorem prs_app : ∀ (l : List AV) (a b : AV), l.length % 2 = 0 → prs (l ++ [a, b]) = prs l ++ [(a, b)]
  | [], a, b, _ => rfl
  | [x], a, b, h => by simp at h
  | x :: y :: l, a, b, h => by
    simp only [List.cons_append, prs]
    rw [prs_app l a b (by simp only [List.length_cons] at h; omega)]
noncomputable def snC (z : V) : V → V := clRec z (fun h _ ih => .one h ih) (fun k l n _ ih => .run k l n ih)
theorem snC_eq (z c : V) : (snC z c).cl = c.cl ++ z.cl := by
  refine cl_cases (P := fun c => (snC z c).cl = c.cl ++ z.cl) (fun h t ih => ?_) (fun k l n t ih => ?_) (fun v h0 h1 => ?_) c
  · show h.av :: (snC z t).cl = _; rw [ih]; rfl
  · show digs k l n ++ (snC z t).cl = _; rw [ih]; simp only [V.cl, List.append_assoc]
  · have : snC z v = z := h0 z _ _
    rw [this, h1]; rfl

section
variable {S : List Nat}
noncomputable def tuB (ok : Bool) (h : V) (b : Bool) : V := @Bool.rec (fun _ => V) h (.tu (.one h (.one (.b b) .nil))) ok
noncomputable def pMpl (n : Nat) (z : AV) (ok : Bool) (m k : Opd) : Pv S := (fun e H κ => mpK ((opd S m).run e) .bad fun id => koK n ((opd S k).run e) (mpB id .bad (fun c => mfC n ((opd S k).run e) (κ (tuB ok (ofAV z) false)) (fun _ h => κ (tuB ok h true)) c 0 0) H.bl))
theorem tuB_den (ok : Bool) {h : V} {x : AV} (hp : h.pv = some x) (b : Bool) : (tuB ok h b).den (.v (if ok then .tup [x, .bool b] else x)) := by
  cases ok with
  | false => exact pv_den hp
  | true =>
    have := (V.pv_sl hp).2.1
    show Sl.v _ = Sl.v (.tup [h.av, .bool b])
    rw [this]; rfl
theorem pMpl_ok (n : Nat) (z : AV) (ok : Bool) (m k : Opd) : PvOK (S := S) (.mpl n z ok m k) (pMpl n z ok m k) := fun e xe H κ q hH h hk => by
  show Agr (mpK ((opd S m).run e) .bad fun id => koK n ((opd S k).run e) (mpB id .bad (fun c => mfC n ((opd S k).run e) (κ (tuB ok (ofAV z) false)) (fun _ h => κ (tuB ok h true)) c 0 0) H.bl)) q
  refine mpK_ok (P := fun r => Agr r q) (opd_val h m) q.bad fun id hid => koK_ok (opd_val h k) fun x hx hko => mpB_ok (P := fun r => Agr r q) q.bad _ hH fun c he hc => (mfC_ok (x := x) (by rw [← hx]; exact opd_val h k) hko c 0).1 fun r hr => ?_
  have hg : H.heap.get id = some (.map (prs c.cl)) := hc
  cases r with
  | none =>
    refine hk _ (.v (if ok then .tup [z, .bool false] else z)) ?_ (tuB_den ok (ofAV_pv z).1 false)
    simp only [opv, hid, hx, hko, if_true, hg, hr]
  | some p =>
    obtain ⟨j, y⟩ := p
    intro v hv hp
    refine hk _ (.v (if ok then .tup [y, .bool true] else y)) ?_ (tuB_den ok hp true)
    simp only [opv, hid, hx, hko, if_true, hg, hr]
noncomputable def smL : V → V → Bool := fun a b => AV.sames a.cl b.cl
noncomputable def pSts (sz : Nat) (a v : Opd) : Pv S := (fun e H κ => adK (opn a) ((opd S a).run e) .bad (fun _ _ => .bad) (fun _ => .bad)
  (fun i o => ceK ((opd S v).run e) .bad fun w => ifB (Nat.ble H.ro i) .bad (ifB (Nat.beq (lenC w) sz) .bad (obK i .bad (fun c => ifB (smL (takeC (dropC c o) sz) w) .bad (κ .un)) H.bl))) (fun _ _ _ _ => .bad))
theorem pSts_ok (sz : Nat) (a v : Opd) : PvOK (S := S) (.sts sz a v) (pSts sz a v) := fun e xe H κ q hH h hk => by
  show Agr (adK (opn a) ((opd S a).run e) .bad (fun _ _ => .bad) (fun _ => .bad)
    (fun i o => ceK ((opd S v).run e) .bad fun w => ifB (Nat.ble H.ro i) .bad (ifB (Nat.beq (lenC w) sz) .bad (obK i .bad (fun c => ifB (smL (takeC (dropC c o) sz) w) .bad (κ .un)) H.bl))) (fun _ _ _ _ => .bad)) q
  refine adK_ok (P := fun r => Agr r q) (opd_dle h a) q.bad (fun _ _ _ => q.bad) (fun _ _ => q.bad) (fun i o hs => ceK_ok (P := fun r => Agr r q) q.bad fun w hp hw => ?_) (fun _ _ _ _ _ => q.bad)
  rw [ifB_ble]
  split
  · rename_i hro
    rw [ifB_beq, lenC_eq]
    split
    · rename_i hl
      refine obK_ok (P := fun r => Agr r q) q.bad _ fun c hc => ?_
      cases hsm : smL (takeC (dropC c o) sz) w with
      | false => exact q.bad
      | true =>
        refine hk .un .un ?_ rfl
        have hg : H.heap.get i = some (.obj c.cl) := hc
        have hro' : H.heap.ro ≤ i := hro
        have hv := opd_val h v _ hp
        simp only [smL, takeC_eq, dropC_eq] at hsm
        rw [hw] at hl hsm
        simp only [opv, hs, hv, hro', hl, and_self, if_true, hg, hsm]
    · exact q.bad
  · exact q.bad
noncomputable def pRmc (m : Nat) (a b : Opd) : Pv S := (fun e _ κ => nnZ ((opd S b).run e) .bad fun y => ifB (Nat.beq y m) .bad (binZ .rem ((opd S a).run e) ((opd S b).run e) κ))
theorem pRmc_ok (m : Nat) (a b : Opd) : PvOK (S := S) (.rmc m a b) (pRmc m a b) := fun e xe H κ q _ h hk => by
  show Agr (nnZ ((opd S b).run e) .bad fun y => ifB (Nat.beq y m) .bad (binZ .rem ((opd S a).run e) ((opd S b).run e) κ)) q
  refine nnZ_ok (opd_val h b) q.bad fun k n hn => ?_
  rw [ifB_beq]
  split
  · rename_i he
    subst he
    refine binZ_ok .rem (opd_val h a) (opd_val h b) fun w r hr hp => hk w (.v r) ?_ (pv_den hp)
    simp only [bin2, hn] at hr
    simp only [opv, hn]
    split at hr
    · rename_i a' b' ha hb; cases hb; rw [ha]; simp only [hr, Option.map_some, if_true]
    · cases hr
  · exact q.bad
end
end Ey
