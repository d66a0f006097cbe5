/- Maps of which keys are numbers: made, asked, written. -/
import Derived.Test.YtjcnpcdcpfbpdaaGreatDoorEyOp16
import Derived.MapKept
import Derived.ChangeMaps5
namespace Ey
open Go Go.RowKit Go.ChangeMaps

def keyTyOK (P : Program) (n : Nat) (t : TypeId) : Bool :=
  match P.underlying t with
  | some (.int _) => n == 0
  | some (.struct fs) => decide (0 < n) && !P.stoodInHeld t && fieldsFlat P 0 fs.toList (List.replicate n .i)
  | some (.array m e) => decide (0 < n) && m == n && bkOK P e .i
  | _ => false

def mapTyOK (P : Program) (n : Nat) (t : TypeId) : Bool :=
  match P.underlying t with
  | some (.map k _) => keyTyOK P n k
  | _ => false

section
variable {C : Cx} {g : Gh} {own : Own} {B : Nat} {H : Heap} {w : World} {env : Env} {a : Act} {n : Nat} {L : List Nat}

theorem keyOK_cases {n : Nat} {x : AV} (h : keyOK n x = true) : (n = 0 ∧ ∃ k a, x = .int k a) ∨ (0 < n ∧ ∃ cs, x = .agg cs ∧ cs.length = n ∧ ∀ c ∈ cs, ∃ k a, c = .int k a) := by
  unfold keyOK at h
  split at h
  · exact .inl ⟨by simpa using h, _, _, rfl⟩
  · rename_i cs
    simp only [Bool.and_eq_true, beq_iff_eq, decide_eq_true_eq, List.all_eq_true] at h
    refine .inr ⟨h.1.2, cs, rfl, h.1.1, fun c hc => ?_⟩
    have := h.2 c hc
    split at this
    · exact ⟨_, _, rfl⟩
    · cases this
  · cases h

theorem bk_int {t : TypeId} (h : bkOK C.P t .i = true) : ∃ k, C.P.underlying t = some (.int k) := by
  simp only [bkOK, Bool.and_eq_true] at h
  obtain ⟨_, h⟩ := h
  split at h
  · rename_i h1 _; cases h1
  · rename_i k _ hu; exact ⟨k, hu⟩
  · rename_i h1 _; cases h1
  · cases h

theorem checkKey_int {t : TypeId} {k : IntKind} (hu : C.P.underlying t = some (.int k)) (em : Bool) (d : Nat) (q : IntKind) (a : Int) : (Instr.checkKey em (d + 1) t (.int q a)).run C.P w = .ok () w := by
  unfold Instr.checkKey
  simp [run_underlying hu]

theorem vr_int {x : AV} {v : Value} (h : VR C g x v) {k : IntKind} {a : Int} (hx : x = .int k a) : v = .int k a := by
  subst hx; cases h; rfl

theorem checkKey_run {n : Nat} {t : TypeId} (ht : keyTyOK C.P n t = true) {x : AV} (hx : keyOK n x = true) {v : Value} (hv : VR C g x v) (em : Bool) : (Instr.checkKey em 10000 t v).run C.P w = .ok () w := by
  unfold keyTyOK at ht
  rcases keyOK_cases hx with ⟨rfl, k, a, rfl⟩ | ⟨h0, cs, rfl, hl, hi⟩
  · cases hv
    split at ht
    · rename_i hu; exact checkKey_int hu em 9999 _ _
    · simp at ht
    · simp at ht
    · cases ht
  · obtain ⟨ws, rfl, hlw, h1, hvs⟩ := agg_inv hv
    split at ht
    · simp at ht; omega
    · rename_i fs hu
      simp only [Bool.and_eq_true, decide_eq_true_eq, Bool.not_eq_true'] at ht
      have key : ∀ (l : List Field) (m k : Nat), fieldsFlat C.P m l (List.replicate k .i) = true → m + k ≤ n → (forIn l PUnit.unit fun f (_ : PUnit) => (do
          if f.name ≠ "_" then Instr.checkKey em 9999 f.type (← Go.part f.type ws f.offset)
          pure (ForInStep.yield PUnit.unit) : Sem (ForInStep PUnit))).run C.P w = .ok PUnit.unit w := by
        intro l
        induction l with
        | nil => intro m k _ _; simp
        | cons f l ih =>
          intro m k hf hm
          cases k with
          | zero => simp [fieldsFlat] at hf
          | succ k =>
            simp only [List.replicate_succ, fieldsFlat, Bool.and_eq_true, bne_iff_ne, ne_eq, beq_iff_eq] at hf
            obtain ⟨⟨⟨hn, ho⟩, hb⟩, hf'⟩ := hf
            obtain ⟨q, hq⟩ := bk_int hb
            have hlt : m < cs.length := by omega
            obtain ⟨u, p1, p2⟩ := cell_part (w := w) hb hlw h1 hvs (List.getElem?_eq_getElem hlt)
            obtain ⟨k', a', hka⟩ := hi _ (List.getElem_mem hlt)
            have hu' := vr_int p2 hka
            subst hu'
            have p3 := checkKey_int (w := w) hq em 9998 k' a'
            simp only [List.forIn_cons, Sem.run_bind, hn, ne_eq, not_false_eq_true, if_true, Result.andThen_ok, ho, p1, p3, Sem.run_pure]
            exact ih (m + 1) k hf' (by omega)
      unfold Instr.checkKey
      simp only [Sem.run_bind, run_underlying hu, Result.andThen_ok]
      rw [← Array.forIn_toList]
      have := key fs.toList 0 n ht.2 (by omega)
      simp at this
      simp [this]
    · rename_i m e hu
      simp only [Bool.and_eq_true, decide_eq_true_eq, beq_iff_eq] at ht
      obtain ⟨⟨_, rfl⟩, hb⟩ := ht
      obtain ⟨q, hq⟩ := bk_int hb
      obtain ⟨i, hinf, hsz⟩ := (bk_ty hb).info
      unfold Instr.checkKey
      simp only [Sem.run_bind, run_underlying hu, Result.andThen_ok]
      simp only [Std.Legacy.Range.forIn_eq_forIn_range', Std.Legacy.Range.size, Nat.sub_zero, Nat.add_one_sub_one, Nat.div_one]
      have each : ∀ j ∈ List.range' 0 m, j < cs.length := fun j hj => by simp at hj; omega
      have hcell : C.P.cellsOf e = 1 := by simp [Program.cellsOf, hinf, hsz]
      generalize List.range' 0 m = is at each
      induction is with
      | nil => simp
      | cons j is ih =>
        have hlt := each j (by simp)
        obtain ⟨u, p1, p2⟩ := cell_part (w := w) hb hlw h1 hvs (List.getElem?_eq_getElem hlt)
        obtain ⟨k', a', hka⟩ := hi _ (List.getElem_mem hlt)
        have hu' := vr_int p2 hka
        subst hu'
        have p3 := checkKey_int (w := w) hq em 9998 k' a'
        simp only [List.forIn_cons, Sem.run_bind, run_sizeOf w hinf, hcell, Nat.mul_one, Result.andThen_ok, p1, p3, Sem.run_pure]
        exact ih fun y hy => each y (by simp [hy])
    · cases ht

theorem eqCells_i {xs ys : List AV} {r : Bool} (h : eqCells (List.replicate xs.length .i) xs ys = some r) : r = true → ys = xs := by
  induction xs generalizing ys with
  | nil => cases ys with
    | nil => exact fun _ => rfl
    | cons y ys => simp [eqCells] at h
  | cons x xs ih =>
    cases ys with
    | nil => simp [eqCells] at h
    | cons y ys =>
      simp only [List.length_cons, List.replicate_succ, eqCells] at h
      intro hr; subst hr
      split at h
      · rename_i he
        unfold eqCell at he
        split at he <;> try (cases he; done)
        all_goals (first | (rename_i hk; cases hk; done) | skip)
        split at he
        · rename_i hk
          simp only [Option.some.injEq, beq_iff_eq] at he
          rw [ih h rfl, hk, he]
        · cases he
      · cases h
      · cases h

theorem keyEq_true {x y : AV} (h : keyEq x y = some true) : y = x := by
  unfold keyEq at h
  split at h
  · split at h
    · rename_i hk; simp at h; rw [hk, h]
    · cases h
  · split at h
    · rw [eqCells_i h rfl]
    · cases h
  · cases h

theorem key_equal {n : Nat} {t : TypeId} (ht : keyTyOK C.P n t = true) {cs : List AV} (hx : keyOK n (.agg cs) = true) {y : AV} {r : Bool} (he : keyEq (.agg cs) y = some r) {u v : Value} (hu : VR C g (.agg cs) u) (hv : VR C g y v) : (Op.equal t u v).run C.P w = .ok r w := by
  rcases keyOK_cases hx with ⟨_, _, _, hh⟩ | ⟨h0, cs', hh, hl, hi⟩
  · cases hh
  cases hh
  unfold keyEq at he
  split at he
  · rename_i h1; cases h1
  · rename_i xs ds hxs
    cases hxs
    split at he
    · rename_i hlen
      rw [hl] at he hlen
      obtain ⟨xs, rfl, hl1, h1, hv1⟩ := agg_inv hu
      obtain ⟨ys, rfl, hl2, h2, hv2⟩ := agg_inv hv
      unfold keyTyOK at ht
      show (Op.equalIn (9999 + 1) t (.agg xs) (.agg ys)).run C.P w = .ok r w
      split at ht
      · simp at ht; omega
      · rename_i fs hf
        simp only [Bool.and_eq_true, decide_eq_true_eq, Bool.not_eq_true'] at ht
        have hfs : C.P.fieldsOf t = fs := by simp [Program.fieldsOf, hf]
        rw [run_equalIn_struct w 9999 t xs ys (by rw [hfs]; exact hf) ht.1.2, hfs]
        exact eqFields_run hl1 h1 hv1 hl2 h2 hv2 9998 ht.2 (by simpa using he)
      · rename_i m e hf
        simp only [Bool.and_eq_true, decide_eq_true_eq, beq_iff_eq] at ht
        obtain ⟨⟨_, rfl⟩, hb⟩ := ht
        obtain ⟨i, hinf, hsz⟩ := (bk_ty hb).info
        have hcell : C.P.cellsOf e = 1 := by simp [Program.cellsOf, hinf, hsz]
        rw [run_equalIn_array w 9999 xs ys hf hinf, hcell]
        have := eqItems_run (w := w) (ks := List.replicate m .i) (m := 0) (e := e) (r := r) hl1 h1 hv1 hl2 h2 hv2 9998 (by simp [hb]) (by simpa using he)
        simpa using this
      · cases ht
    · cases he
  · cases he

/-- where a key's entry is found -/
def FindR (C : Cx) (g : Gh) (kv : AV) (es : List (AV × AV)) (ms : List MapEntry) : Option (Nat × AV) → Option (Nat × Value) → Prop
  | none, none => True
  | some (i, x), some (j, v) => j = i ∧ VR C g x v ∧ ∃ m e, ms[i]? = some m ∧ es[i]? = some e ∧ v = m.val ∧ keyEq kv e.1 = some true
  | _, _ => False

def FindS (C : Cx) (g : Gh) (kv : AV) (es : List (AV × AV)) (ms : List MapEntry) (s : Nat) : Option (Nat × AV) → Option (Nat × Value) → Prop
  | none, none => True
  | some (i, x), some (j, v) => j = i ∧ s ≤ i ∧ VR C g x v ∧ ∃ m e, ms[i - s]? = some m ∧ es[i - s]? = some e ∧ v = m.val ∧ keyEq kv e.1 = some true
  | _, _ => False

theorem FindS.step {kv : AV} {e : AV × AV} {es : List (AV × AV)} {m : MapEntry} {ms : List MapEntry} {s : Nat} : ∀ {r : Option (Nat × AV)} {r' : Option (Nat × Value)}, FindS C g kv es ms (s + 1) r r' → FindS C g kv (e :: es) (m :: ms) s r r'
  | none, none, _ => trivial
  | some (i, x), some (j, v), ⟨p1, p2, p3, m', e', p4, p5, p6, p7⟩ => by
    have hi : i - s = (i - (s + 1)) + 1 := by omega
    exact ⟨p1, by omega, p3, m', e', by rw [hi]; simpa using p4, by rw [hi]; simpa using p5, p6, p7⟩
  | none, some _, h => h.elim
  | some _, none, h => h.elim

theorem FindS.fin {kv : AV} {es : List (AV × AV)} {ms : List MapEntry} : ∀ {r : Option (Nat × AV)} {r' : Option (Nat × Value)}, FindS C g kv es ms 0 r r' → FindR C g kv es ms r r'
  | none, none, _ => trivial
  | some (_, _), some (_, _), ⟨p1, _, p3, m', e', p4, p5, p6, p7⟩ => ⟨p1, p3, m', e', p4, p5, p6, p7⟩
  | none, some _, h => h.elim
  | some _, none, h => h.elim

theorem findNow_run {k : IntKind} {q : IntKind} {c : Int} : ∀ (es : List (AV × AV)) (ms : List MapEntry) (s : Nat), es.length = ms.length →
    (∀ (i : Nat) (x : AV × AV) (m : MapEntry), es[i]? = some x → ms[i]? = some m → VR C g x.1 m.key ∧ VR C g x.2 m.val) → ∀ {r}, mpFind (.int q c) es s = some r →
    ∃ r', Instr.findNow (.int k) (.int q c) ms s = some r' ∧ FindS C g (.int q c) es ms s r r'
  | [], [], s, _, _, r, h => by
    simp only [mpFind, Option.some.injEq] at h
    subst h
    exact ⟨none, rfl, trivial⟩
  | [], _ :: _, _, h, _, _, _ => by simp at h
  | _ :: _, [], _, h, _, _, _ => by simp at h
  | e :: es, m :: ms, s, hl, hr, r, h => by
    obtain ⟨h1, h2⟩ := hr 0 e m rfl rfl
    simp only [mpFind] at h
    have hr' : ∀ (i : Nat) (x : AV × AV) (m : MapEntry), es[i]? = some x → ms[i]? = some m → VR C g x.1 m.key ∧ VR C g x.2 m.val := fun i x m' hx hm => hr (i + 1) x m' (by simpa using hx) (by simpa using hm)
    cases hk : keyEq (.int q c) e.1 with
    | none => rw [hk] at h; cases h
    | some b =>
      rw [hk] at h
      have hsn : Instr.sameNow (.int k) (.int q c) m.key = some b := by
        unfold keyEq at hk
        split at hk
        · rename_i k1 a1 k2 b1 e1 e2
          cases e1
          rw [e2] at h1
          rw [vr_int h1 rfl]
          simpa [Instr.sameNow] using hk
        · rename_i e1 _; cases e1
        · cases hk
      cases b with
      | true =>
        simp only [Option.some.injEq] at h
        subst h
        exact ⟨some (s, m.val), by simp [Instr.findNow, hsn], rfl, Nat.le_refl _, h2, m, e, by simp, by simp, rfl, hk⟩
      | false =>
        simp only at h
        obtain ⟨r', k1, k2⟩ := findNow_run (k := k) es ms (s + 1) (by simpa using hl) hr' h
        refine ⟨r', by simp [Instr.findNow, hsn, k1], ?_⟩
        exact k2.step

theorem findAsk_run {n : Nat} {t : TypeId} (ht : keyTyOK C.P n t = true) {cs : List AV} (hx : keyOK n (.agg cs) = true) {u : Value} (hu : VR C g (.agg cs) u) : ∀ (es : List (AV × AV)) (ms : List MapEntry) (s : Nat), es.length = ms.length →
    (∀ (i : Nat) (x : AV × AV) (m : MapEntry), es[i]? = some x → ms[i]? = some m → VR C g x.1 m.key ∧ VR C g x.2 m.val) → ∀ {r}, mpFind (.agg cs) es s = some r →
    ∃ r', (Instr.findAsking t u ms s).run C.P w = .ok r' w ∧ FindS C g (.agg cs) es ms s r r'
  | [], [], s, _, _, r, h => by
    simp only [mpFind, Option.some.injEq] at h
    subst h
    exact ⟨none, by simp [Instr.findAsking], trivial⟩
  | [], _ :: _, _, h, _, _, _ => by simp at h
  | _ :: _, [], _, h, _, _, _ => by simp at h
  | e :: es, m :: ms, s, hl, hr, r, h => by
    obtain ⟨h1, h2⟩ := hr 0 e m rfl rfl
    simp only [mpFind] at h
    have hr' : ∀ (i : Nat) (x : AV × AV) (m : MapEntry), es[i]? = some x → ms[i]? = some m → VR C g x.1 m.key ∧ VR C g x.2 m.val := fun i x m' hx hm => hr (i + 1) x m' (by simpa using hx) (by simpa using hm)
    cases hk : keyEq (.agg cs) e.1 with
    | none => rw [hk] at h; cases h
    | some b =>
      rw [hk] at h
      have hsn := key_equal (w := w) ht hx hk hu h1
      cases b with
      | true =>
        simp only [Option.some.injEq] at h
        subst h
        exact ⟨some (s, m.val), by simp [Instr.findAsking, hsn], rfl, Nat.le_refl _, h2, m, e, by simp, by simp, rfl, hk⟩
      | false =>
        simp only at h
        obtain ⟨r', k1, k2⟩ := findAsk_run ht hx hu es ms (s + 1) (by simpa using hl) hr' h
        refine ⟨r', by simp [Instr.findAsking, hsn, k1], ?_⟩
        exact k2.step

theorem find_run {n : Nat} {t : TypeId} (ht : keyTyOK C.P n t = true) {kv : AV} (hx : keyOK n kv = true) {u : Value} (hu : VR C g kv u) {es : List (AV × AV)} {ms : Array MapEntry} (hr : MapR C g es ms) {r : Option (Nat × AV)} (h : mpFind kv es 0 = some r) :
    ∃ r', (Instr.findKey t u ms.toList).run C.P w = .ok r' w ∧ FindR C g kv es ms.toList r r' := by
  have hlen : es.length = ms.toList.length := by simpa using hr.1
  rcases keyOK_cases hx with ⟨rfl, k, c, rfl⟩ | ⟨h0, cs, rfl, hl, hi⟩
  · cases hu
    have hk : ∃ q, C.P.underlying t = some (.int q) := by
      unfold keyTyOK at ht
      split at ht
      · exact ⟨_, by assumption⟩
      · simp at ht
      · simp at ht
      · cases ht
    obtain ⟨q, hq⟩ := hk
    obtain ⟨r', k1, k2⟩ := findNow_run (k := q) es ms.toList 0 hlen hr.2 h
    exact ⟨r', MapKept.run_findKey hq k1, k2.fin⟩
  · obtain ⟨r', k1, k2⟩ := findAsk_run (w := w) ht hx hu es ms.toList 0 hlen hr.2 h
    refine ⟨r', ?_, k2.fin⟩
    obtain ⟨ws, rfl, _⟩ := agg_inv hu
    have hd : ∃ d, C.P.underlying t = some d ∧ ((∃ fs, d = .struct fs) ∨ ∃ m e, d = .array m e) := by
      unfold keyTyOK at ht
      split at ht
      · simp at ht; omega
      · exact ⟨_, by assumption, .inl ⟨_, rfl⟩⟩
      · exact ⟨_, by assumption, .inr ⟨_, _, rfl⟩⟩
      · cases ht
    obtain ⟨d, hd1, hd2⟩ := hd
    cases hms : ms.toList with
    | nil =>
      rw [hms] at k1
      simp only [Instr.findAsking, Sem.run_pure, Result.ok.injEq] at k1
      obtain ⟨rfl, _⟩ := k1
      simp [Instr.findKey, run_underlying hd1, Instr.findNow]
    | cons m l =>
      rw [hms] at k1
      have : Instr.sameNow d (.agg ws) m.key = none := by
        rcases hd2 with ⟨fs, rfl⟩ | ⟨x, e, rfl⟩ <;> rfl
      simp [Instr.findKey, run_underlying hd1, Instr.findNow, this, k1]

theorem sameBits_int (n : Nat) (k : IntKind) (a : Int) : Instr.sameBits n (.int k a) (.int k a) = true := by simp [Instr.sameBits]

theorem stays_run {n : Nat} {kv : AV} (hx : keyOK n kv = true) {u v : Value} (hu : VR C g kv u) (hv : VR C g kv v) : (Instr.keyThatStays u v).run C.P w = .ok v w := by
  have hs : Instr.sameBits 10000 u v = true := by
    rcases keyOK_cases hx with ⟨_, k, c, rfl⟩ | ⟨h0, cs, rfl, hl, hi⟩
    · cases hu; cases hv; exact sameBits_int _ _ _
    · obtain ⟨us, rfl, h1, h2, h3⟩ := agg_inv hu
      obtain ⟨vs, rfl, k1, k2, k3⟩ := agg_inv hv
      show (us.size == vs.size && (us.toList.zip vs.toList).all fun p => Instr.sameBits 9999 p.1 p.2) = true
      simp only [Bool.and_eq_true, beq_iff_eq, List.all_eq_true]
      refine ⟨by omega, fun p hp => ?_⟩
      obtain ⟨i, hi', hpi⟩ := List.getElem_of_mem hp
      simp only [List.length_zip, Array.length_toList] at hi'
      rw [List.getElem_zip] at hpi
      have hci : i < cs.length := by omega
      obtain ⟨k, c, hkc⟩ := hi _ (List.getElem_mem hci)
      have e1 := vr_int (h3 i _ us[i] (List.getElem?_eq_getElem hci) (by simp)) hkc
      have e2 := vr_int (k3 i _ vs[i] (List.getElem?_eq_getElem hci) (by simp)) hkc
      subst hpi
      simp only [Array.getElem_toList, e1, e2]
      exact sameBits_int _ _ _
  simp [Instr.keyThatStays, hs]

theorem mp_inv {id : Nat} {v : Value} (h : VR C g (.mp id) v) : ∃ b, v = .map (some b) ∧ g.ob id = some (b, 0) := by
  cases h with
  | mp _ b h => exact ⟨b, rfl, h⟩

/-- what a map answers -/
def lkV (ok : Bool) (z : AV) : Option (Nat × AV) → AV
  | some (_, x) => if ok then .tup [x, .bool true] else x
  | none => if ok then .tup [z, .bool false] else z

/-- what a map holds at a key -/
theorem mpl_sim (hS : St C g own B H w) {n : Nat} {t k e : TypeId} (hu : C.P.underlying t = some (.map k e)) (ht : keyTyOK C.P n k = true) {z : AV} {zv : Value} (hz : (zeroValue e).run C.P w = .ok zv w) (hzr : VR C g z zv) {id : Nat} {kv : AV} (hk : keyOK n kv = true) {es : List (AV × AV)} (hg : H.get id = some (.map es))
    {r : Option (Nat × AV)} (hf : mpFind kv es 0 = some r) {m u : Value} (hm : VR C g (.mp id) m) (huv : VR C g kv u) (ok : Bool) :
    ∃ v, (Instr.lookup t m u ok).run C.P w = .ok v w ∧ VR C g (lkV ok z r) v := by
  obtain ⟨b, rfl, hb⟩ := mp_inv hm
  obtain ⟨b', h1, h2, ms, c, h3, h4⟩ := hS.mp id es hg
  rw [hb] at h1
  simp only [Option.some.injEq, Prod.mk.injEq, and_true] at h1
  subst h1
  obtain ⟨r', k1, k2⟩ := find_run (w := w) ht hk huv h4 hf
  have hck := checkKey_run (w := w) ht hk huv ms.isEmpty
  have two : ∀ {x : AV} {v : Value} {y : Bool}, VR C g x v → VR C g (.tup [x, .bool y]) (.tuple #[v, .bool y]) := fun {x v y} h => by
    refine .tup _ _ rfl fun i p q hp hq => ?_
    match i with
    | 0 => simp at hp hq; subst hp; subst hq; exact h
    | 1 => simp at hp hq; subst hp; subst hq; exact .bool _
    | i + 2 => simp at hp
  match r, r', k2 with
  | none, none, _ =>
    refine ⟨if ok then .tuple #[zv, .bool false] else zv, ?_, ?_⟩
    · simp [Instr.lookup, run_underlying hu, MapKept.run_getObj_map h3, hck, k1, hz]
    · cases ok
      · exact hzr
      · exact two hzr
  | some (i, x), some (j, v), ⟨_, p2, _⟩ =>
    refine ⟨if ok then .tuple #[v, .bool true] else v, ?_, ?_⟩
    · simp [Instr.lookup, run_underlying hu, MapKept.run_getObj_map h3, hck, k1]
    · cases ok
      · exact p2
      · exact two p2

/-- a map's block written -/
theorem chg_map (hS : St C g own B H w) {id b : Nat} {es es' : List (AV × AV)} (hg : H.get id = some (.map es)) (hro : H.ro ≤ id) (hob : g.ob id = some (b, 0)) {ms ms' : Array MapEntry} {c c' : Nat} (hb : w.heap[b]? = some (.map ms c)) (hr : MapR C g es' ms') (hown : own b 0 = .heap id) :
    Chg C g own B H w g own (H.put id (some (.map es'))) (setBlock w b (.map ms' c')) id := by
  have hlt := get_lt hS hg
  have hcell : ∀ b' o', (setBlock w b (.map ms' c')).cell? ⟨b', o', none⟩ = w.cell? ⟨b', o', none⟩ := fun b' o' => by
    unfold World.cell?
    by_cases e : b' = b
    · subst e; simp only; rw [heap_setBlock_same hb, hb]
    · simp only; rw [heap_setBlock_other hb _ e]
  have hsz : (setBlock w b (.map ms' c')).heap.size = w.heap.size := by simp [setBlock]
  refine ⟨.refl g, fun b' o' _ _ => ⟨rfl, hcell b' o', frozen?_setBlock hb _⟩, fun b' es2 c2 h1 h2 hm => ?_, fun b' o' v h => ?_, fun _ _ => rfl, fun _ => rfl, fun _ _ _ => rfl, fun i hi => by simp [Heap.put, hi], fun bl hbl => ?_, rfl, Nat.le_refl _, hlt, hro, fun b' o' => by rw [hsz]; exact hS.ext b' o', hS.base, ?_⟩
  · have hne : b' ≠ b := fun e => by subst e; exact h2 hown
    rw [heap_setBlock_other hb _ hne]; exact hm
  · obtain ⟨h1, h2⟩ := hS.imm b' o' v h
    exact ⟨h1, by rw [hcell]; exact h2⟩
  · simp only [Heap.put, if_true, Option.some.injEq] at hbl
    subst hbl
    exact ⟨b, hob, hown, ms', c', heap_setBlock_same hb _, hr⟩
  · have hB := hS.base b 0 ⟨id, .inl hown⟩
    exact ⟨rfl, rfl, rfl, by rw [hsz]; exact Nat.le_refl _, fun k hk => heap_setBlock_other hb _ (by omega)⟩

theorem mpu_done (hS : St C g own B H w) (hF : Fr C g own w env a.tmps n L) {d : Option Nat} (hd : d = none) {m : Nat} {t k e : TypeId} (hu : C.P.underlying t = some (.map k e)) (ht : keyTyOK C.P m k = true) {id : Nat} {kv x : AV} (hk : keyOK m kv = true) (hro : H.ro ≤ id) {es : List (AV × AV)} (hg : H.get id = some (.map es))
    {r : Option (Nat × AV)} (hf : mpFind kv es 0 = some r) {mv u v : Value} (hm : VR C g (.mp id) mv) (huv : VR C g kv u) (hv : VR C g x v) :
    ∃ res, (do Instr.mapUpdate t mv u v; pure Next.skip : Sem Next).run C.P w = res ∧
      Done C g own B H w a n L d (setDst d .un env) (H.put id (some (.map (match r with | some (i, _) => es.set i (kv, x) | none => es ++ [(kv, x)])))) res := by
  subst hd
  obtain ⟨b, rfl, hb⟩ := mp_inv hm
  obtain ⟨b', h1, h2, ms, c, h3, h4⟩ := hS.mp id es hg
  rw [hb] at h1
  simp only [Option.some.injEq, Prod.mk.injEq, and_true] at h1
  subst h1
  obtain ⟨r', k1, k2⟩ := find_run (w := w) ht hk huv h4 hf
  have hck := checkKey_run (w := w) ht hk huv false
  refine ⟨_, rfl, ?_⟩
  match r, r', k2 with
  | none, none, _ =>
    have hrun : (do Instr.mapUpdate t (.map (some b)) u v; pure Next.skip : Sem Next).run C.P w = .ok .skip (setBlock w b (.map (ms.push { key := u, val := v, born := c }) (c + 1))) := by
      simp [Instr.mapUpdate, run_underlying hu, MapKept.run_getObj_map h3, hck, k1, MapKept.run_setObj_map _ h3, setBlock]
    rw [hrun]
    have hr : MapR C g (es ++ [(kv, x)]) (ms.push { key := u, val := v, born := c }) := by
      refine ⟨by simp [h4.1], fun i p q hp hq => ?_⟩
      rw [Array.toList_push] at hq
      have hl : es.length = ms.toList.length := by simpa using h4.1
      by_cases hi : i < es.length
      · rw [List.getElem?_append_left hi] at hp
        rw [List.getElem?_append_left (by omega)] at hq
        exact h4.2 i p q hp hq
      · rw [List.getElem?_append_right (by omega)] at hp hq
        rw [← hl] at hq
        cases hj : i - es.length with
        | zero => rw [hj] at hp hq; simp at hp hq; subst hp; subst hq; exact ⟨huv, hv⟩
        | succ j => rw [hj] at hp; simp at hp
    have hchg := chg_map (c' := c + 1) hS hg hro hb h3 hr h2
    exact ⟨_, _, _, _, .inr ⟨rfl, rfl⟩, hchg.toExt, hchg.st hS, hchg.fr hF⟩
  | some (i, y), some (j, v0), ⟨hji, _, m0, e0, q1, q2, _, q4⟩ =>
    have hij := hji.symm
    subst hij
    have hkey := keyEq_true q4
    have hms : ms[i]? = some m0 := by simpa using q1
    obtain ⟨w1, w2⟩ := h4.2 i e0 m0 q2 q1
    rw [hkey] at w1
    have hst := stays_run (w := w) hk w1 huv
    have hrun : (do Instr.mapUpdate t (.map (some b)) u v; pure Next.skip : Sem Next).run C.P w = .ok .skip (setBlock w b (.map (ms.modify i fun e => { e with key := u, val := v }) c)) := by
      simp [Instr.mapUpdate, run_underlying hu, MapKept.run_getObj_map h3, hck, k1, hms, hst, MapKept.run_setObj_map _ h3, setBlock]
    rw [hrun]
    have hr : MapR C g (es.set i (kv, x)) (ms.modify i fun e => { e with key := u, val := v }) := by
      refine ⟨by simp [h4.1], fun l p q hp hq => ?_⟩
      rw [Array.getElem?_toList, Array.getElem?_modify] at hq
      rw [List.getElem?_set] at hp
      by_cases hl : i = l
      · subst hl
        have hil := (List.getElem?_eq_some_iff.1 q2).1
        rw [if_pos rfl, if_pos hil] at hp
        rw [if_pos rfl, hms] at hq
        simp at hp hq
        subst hp; subst hq
        exact ⟨huv, hv⟩
      · rw [if_neg hl] at hp hq
        exact h4.2 l p q hp (by rw [Array.getElem?_toList]; exact hq)
    have hchg := chg_map (c' := c) hS hg hro hb h3 hr h2
    exact ⟨_, _, _, _, .inr ⟨rfl, rfl⟩, hchg.toExt, hchg.st hS, hchg.fr hF⟩

/-- a new map -/
theorem mkmp_done (hS : St C g own B H w) (hF : Fr C g own w env a.tmps n L) {d : Option Nat} (hd : dstOK n L d) :
    Done C g own B H w a n L d (setDst d (.v (.mp H.next)) env) (H.new (.map [])) (.ok (.value (.map (some w.heap.size))) (w.alloc (.map #[] 0))) := by
  have hN := New.alloc w (.map #[] 0)
  obtain ⟨hn1, hn2, hn3⟩ := hS.next H.next (Nat.le_refl _)
  let g' : Gh := { g with ob := fun id => if id = H.next then some (w.heap.size, 0) else g.ob id }
  have hle : g.Le g' := ⟨fun _ _ _ h => h, fun id p h => by
    by_cases e : id = H.next
    · subst e; rw [hn2] at h; cases h
    · simp only [g', if_neg e]; exact h, fun _ _ _ h => h⟩
  have hchg : Chg C g own B H w g' (growOwn own w.heap.size fun _ => .heap H.next) (H.new (.map [])) (w.alloc (.map #[] 0)) H.next := by
    refine ⟨hle, fun b o h1 h2 => ?_, fun b es c h1 h2 hm => by rw [hN.old b (hS.lt h1)]; exact hm, fun b o v h => ?_, fun id e => by simp [g', e], fun h => by omega, fun _ _ _ => rfl, fun id e => by simp [Heap.new, e], fun bl hb => ?_, rfl, by simp [Heap.new], by simp [Heap.new], hS.ro, fun b o => ?_, fun b o => ?_, hN.below hS.size⟩
    · have hlt := hS.lt h1
      exact ⟨growOwn_old hS _ h1, hN.cell hlt, hN.frozen hlt⟩
    · obtain ⟨k1, k2⟩ := hS.imm b o v h
      have hne : own b o ≠ .free := by rw [k1]; simp
      exact ⟨by rw [growOwn_old hS _ hne]; exact k1, by rw [hN.cell (hS.lt hne)]; exact k2⟩
    · simp only [Heap.new, if_true, Option.some.injEq] at hb
      subst hb
      exact ⟨w.heap.size, by simp [g'], by simp [growOwn], #[], 0, (MapKept.heap_alloc w _).1, rfl, fun i x m hx => by simp at hx⟩
    · simp only [growOwn]
      by_cases hb : b = w.heap.size
      · exact .inr (by have := hN.size; omega)
      · rw [if_neg hb]
        rcases hS.ext b o with h | h
        · exact .inl h
        · exact .inr (by have := hN.size; omega)
    · simp only [growOwn]
      by_cases hb : b = w.heap.size
      · intro _; have := hS.size; omega
      · rw [if_neg hb]; exact hS.base b o
  refine ⟨_, _, _, _, .inl rfl, hchg.toExt, hchg.st hS, (hchg.fr hF).put hd (x := .v (.mp H.next)) ?_ rfl⟩
  exact VR.mp (C := C) (g := g') H.next w.heap.size (by simp [g'])

end
end Ey
