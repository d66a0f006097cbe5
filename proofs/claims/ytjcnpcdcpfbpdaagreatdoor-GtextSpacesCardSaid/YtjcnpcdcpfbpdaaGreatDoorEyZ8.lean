/- The fast form: functions, calls. -/
import Derived.Test.YtjcnpcdcpfbpdaaGreatDoorEyZ7
namespace Ey
open Go (IntKind FloatKind BinOp UnOp)

/-! ### results -/
structure Rs (S : List Nat) where
  run : E S → ZH → (V → FR) → FR
noncomputable def rsC (S : List Nat) : ARes → Rs S
  | .tmp t => ⟨fun e _ k => haK ((acc S t).run e) k⟩
  | .cell s sz ag => ⟨fun e H k => ldZ S sz ag s ((acc S s).run e) e H k⟩
theorem rsC_ok {S : List Nat} {e : E S} {x : Env} (h : Rel S e x) {H : ZH} (hH : H.ok) {q : Pr} (r : ARes) {k : V → FR} (hk : ∀ w, resS x H.heap r = some w.av → w.pv = some w.av → Agr (k w) q) : Agr ((rsC S r).run e H k) q := by
  cases r with
  | tmp t =>
    refine haK_ok fun hp => hk _ ?_ hp
    have := (V.pv_sl hp).2.2.1 _ (get_den h t)
    simp only [resS, this]
  | cell s sz ag => exact ldZ_ok h hH (opd_dle h (.t s)) fun w hw hp => hk w hw hp
noncomputable def rssC (S : List Nat) : List ARes → Rs S
  | [] => ⟨fun _ _ k => k .nil⟩
  | r :: l => ⟨fun e H k => (rsC S r).run e H fun v => (rssC S l).run e H fun t => k (.one v t)⟩
theorem rssC_ok {S : List Nat} {e : E S} {x : Env} (h : Rel S e x) {H : ZH} (hH : H.ok) {q : Pr} : ∀ (l : List ARes) {k : V → FR}, (∀ w, resAll x H.heap l = some w.cl → Agr (k w) q) → Agr ((rssC S l).run e H k) q
  | [], k, hk => hk .nil rfl
  | r :: l, k, hk => rsC_ok h hH r fun v hv _ => rssC_ok h hH l fun t ht => hk _ (by simp only [resAll, hv, ht, Option.map_some, V.cl])
noncomputable def resC (S : List Nat) : List ARes → Rs S
  | [r] => rsC S r
  | l => ⟨fun e H k => (rssC S l).run e H fun w => k (.tu w)⟩
theorem resC_ok {S : List Nat} {e : E S} {x : Env} (h : Rel S e x) {H : ZH} (hH : H.ok) {q : Pr} (l : List ARes) {k : V → FR} (hk : ∀ w, resOf x H.heap l = some w.av → w.pv = some w.av → Agr (k w) q) : Agr ((resC S l).run e H k) q := by
  match l with
  | [] => exact rssC_ok h hH [] fun w hw => hk (.tu w) (by simp only [resOf, hw, Option.map_some, V.av]) rfl
  | [r] => exact rsC_ok h hH r hk
  | r :: r2 :: t => exact rssC_ok h hH (r :: r2 :: t) fun w hw => hk (.tu w) (by simp only [resOf, hw, Option.map_some, V.av]) rfl
def resSl : List ARes → List Nat
  | [] => []
  | .tmp t :: l => t :: resSl l
  | .cell s _ _ :: l => s :: resSl l

/-- are all heap numbers that a value holds below n? -/
noncomputable def unV (n : Nat) : V → Bool := @V.rec (fun _ => Bool)
  (fun _ => true) (fun _ => true) (fun _ _ => true) (fun _ _ => true) (fun y => y.under n) (fun _ _ ih => ih) true (fun id _ _ _ => Nat.ble (Nat.succ id) n) (fun _ ih => ih) true (fun id _ => Nat.ble (Nat.succ id) n) (fun id _ _ _ => Nat.ble (Nat.succ id) n)
  (fun _ _ ih => ih) true (fun _ _ ih => ih) true (fun _ ih => ih) (fun _ ih => ih) true (fun _ _ ih1 ih2 => ifB ih1 false ih2) (fun _ _ _ _ ih => ih) true true true (fun _ _ => true) (fun _ _ => true)
theorem under_digs (n k : Nat) : ∀ l m, AV.underAll n (digs k l m) = true
  | 0, _ => rfl
  | l + 1, m => by
    simp only [digs, AV.underAll, under_digs n k l, Bool.and_true]
    match k with
    | 0 => rfl
    | 1 => rfl
    | k + 2 => rfl
theorem underAll_app (n : Nat) : ∀ a b : List AV, AV.underAll n (a ++ b) = (AV.underAll n a && AV.underAll n b)
  | [], b => by simp [AV.underAll]
  | x :: a, b => by simp only [List.cons_append, AV.underAll, underAll_app n a b, Bool.and_assoc]
theorem unV_ok (n : Nat) (v : V) : unV n v = true → v.av.under n = true ∧ AV.underAll n v.cl = true := by
  have lt : ∀ id : Nat, Nat.ble (Nat.succ id) n = true → decide (id < n) = true := fun id h => decide_eq_true (Nat.le_of_ble_eq_true h)
  induction v with
  | x y => intro h; exact ⟨h, rfl⟩
  | li nl c ih => intro h; exact ⟨(ih h).2, rfl⟩
  | ms id ver lo len => intro h; exact ⟨lt id h, rfl⟩
  | im y ih => intro h; exact ⟨(ih h).1, rfl⟩
  | pt id o => intro h; exact ⟨lt id h, rfl⟩
  | ap id ver i o => intro h; exact ⟨lt id h, rfl⟩
  | fn g c ih => intro h; exact ⟨(ih h).2, rfl⟩
  | fc t y ih => intro h; exact ⟨(ih h).1, rfl⟩
  | ag c ih => intro h; exact ⟨(ih h).2, rfl⟩
  | tu c ih => intro h; exact ⟨(ih h).2, rfl⟩
  | one h t ihh iht =>
    intro hb
    have hb' : ifB (unV n h) false (unV n t) = true := hb
    cases h1 : unV n h with
    | false => rw [h1] at hb'; cases hb'
    | true => rw [h1] at hb'; exact ⟨rfl, by simp only [V.cl, AV.underAll, (ihh h1).1, (iht hb').2, Bool.and_self]⟩
  | run k l m t ih => intro h; exact ⟨rfl, by simp only [V.cl, underAll_app, under_digs, (ih h).2, Bool.and_self]⟩
  | _ => intro _; exact ⟨rfl, rfl⟩

noncomputable def doZ (pure : Bool) (H : ZH) (v : V) (H' : ZH) (mk : V → ZH → FR) : FR := @Bool.rec (fun _ => FR) (hK H fun _ ro _ => hK H' fun nx _ bl => mk v ⟨nx, ro, bl⟩) (ifB (unV H.next v) .bad (mk v H)) pure
noncomputable def boZ' (pure : Bool) (H : ZH) : ZH := @Bool.rec (fun _ => ZH) H (@ZH.rec (fun _ => ZH) (fun nx _ bl => ⟨nx, nx, bl⟩) H) pure
structure Fc where
  run : ZCaller → V → ZH → FR
noncomputable def fnC (af : AFn) (an : An) (N : List Nat) : Fc := ⟨fun cl w H => (inC N af.params 0).run w fun e0 =>
  (fun (fin : E (resSl af.results) → ZH → FR) => (comp (resSl af.results) af.code an (iotN af.params 0 N) (resSl af.results) []).run cl fin KX.none ⟨fin, fun v _ H' => doZ af.pure H v H' .pan⟩ e0 (boZ' af.pure H))
  (fun e' H' => (resC (resSl af.results) af.results).run e' H' fun v => doZ af.pure H v H' .ret)⟩
section
variable {Φ : Nat → Option AFn}
theorem fnC_ok {cl : ZCaller} (hcl : AgrZ cl (evC Φ)) {f : Nat} {af : AFn} (hf : Φ f = some af) (an : An) (N : List Nat) (w : V) (H : ZH) (hH : H.ok) : Agf ((fnC af an N).run cl w H) (evC Φ f w.cl H.heap) := by
  refine inC_rel (q := Pr.of _) _ w fun hl e0 he0 => ?_
  rw [evC_eq hf hl]
  have hB : (boZ' af.pure H).heap = bodyH af H.heap := by
    simp only [boZ', bodyH]; cases af.pure <;> rfl
  have hBo : (boZ' af.pure H).ok := by simp only [boZ']; cases af.pure <;> exact hH
  rw [← hB]
  have hpan : ∀ (v : V) (x' : Env) (H' : ZH), H'.ok → v.pv = some v.av → ∀ o, o = some (.pan v.av x' H'.heap) → Agf (doZ af.pure H v H' .pan) (finS af H.heap o) := fun v x' H' hH' hv o ho => by
    subst ho
    simp only [doZ, finS]
    cases af.pure with
    | true =>
      refine ifB_ok (P := fun r => Agf r _) trivial fun hu => ?_
      have : v.av.under H.heap.next = true := (unV_ok H.next v hu).1
      exact ⟨by simp only [if_true, this], hH, hv⟩
    | false => exact ⟨rfl, hH', hv⟩
  have hfin : ∀ (wx : Ex) (e' : E (resSl af.results)) (x' : Env) (H' : ZH), (wx = .nrm ∨ wx = .ret) → H'.ok → Rel (resSl af.results) e' x' → ∀ o, o = some (.go wx x' H'.heap) → Agf ((resC (resSl af.results) af.results).run e' H' fun v => doZ af.pure H v H' .ret) (finS af H.heap o) := fun wx e' x' H' hw hH' hrel o ho => by
    refine resC_ok (q := Pr.of _) hrel hH' af.results fun v hv hp => ?_
    subst ho
    have hfi : finS af H.heap (some (.go wx x' H'.heap)) = if af.pure then (if v.av.under H.heap.next then some (.ret v.av H.heap) else none) else some (.ret v.av { H'.heap with ro := H.heap.ro }) := by
      rcases hw with rfl | rfl <;> simp only [finS, hv]
    rw [hfi]
    simp only [doZ]
    cases af.pure with
    | true =>
      refine ifB_ok (P := fun r => Agf r _) trivial fun hu => ?_
      have : v.av.under H.heap.next = true := (unV_ok H.next v hu).1
      exact ⟨by simp only [if_true, this], hH, hp⟩
    | false => exact ⟨rfl, hH', hp⟩
  exact comp_ok hcl _ af.code an _ _ [] e0 (initEnv 0 w.cl) (boZ' af.pure H) _ KX.none _ (Pr.of _) hBo he0
    (fun e' x' H' hH' ho hrel => hfin .nrm e' x' H' (.inl rfl) hH' hrel _ ho) exX_none
    (fun e' x' H' hH' ho hrel => hfin .ret e' x' H' (.inr rfl) hH' hrel _ ho) (fun v er x' H' hH' ho hv _ => hpan v x' H' hH' hv _ ho)

/-! ### a program's functions -/
inductive ZE where
  | none
  | code (af : AFn) (an : An) (N : List Nat)
  | nat (g : V → ZH → FR)
noncomputable def entC : ZE → Fc
  | .none => ⟨fun _ _ _ => .bad⟩
  | .code af an N => fnC af an N
  | .nat g => ⟨fun _ w H => g w H⟩
def lookZ : List ZE → Nat → ZE
  | [], _ => .none
  | a :: _, 0 => a
  | _ :: l, n + 1 => lookZ l n
def zipZ : List AFn → List (An × List Nat) → List ZE
  | a :: l, n :: m => .code a n.1 n.2 :: zipZ l m
  | _, _ => []
theorem zipZ_get : ∀ (l : List AFn) (m : List (An × List Nat)) (f : Nat), lookZ (zipZ l m) f = .none ∨ ∃ af an N, lookZ (zipZ l m) f = .code af an N ∧ l[f]? = some af
  | [], _, _ => .inl rfl
  | _ :: _, [], _ => .inl rfl
  | a :: l, n :: m, 0 => .inr ⟨a, n.1, n.2, rfl, rfl⟩
  | a :: l, n :: m, f + 1 => by
    rcases zipZ_get l m f with h | ⟨af, an, N, h1, h2⟩
    · exact .inl h
    · exact .inr ⟨af, an, N, h1, by simpa using h2⟩
/-- what stands for functions: their code, or, of some, another way to the same answer -/
def natsZ : List (Nat × ZE) → List ZE → Nat → ZE
  | [], zs, f => lookZ zs f
  | (g, e) :: l, zs, f => bif Nat.beq f g then e else natsZ l zs f
noncomputable def callZ (look : Nat → ZE) : Nat → ZCaller := @Nat.rec (fun _ => ZCaller) (fun _ _ _ => .bad) (fun _ ih f w H => (entC (look f)).run ih w H)
def ZEok (Φ : Nat → Option AFn) (f : Nat) (z : ZE) : Prop := match z with
  | .none => True
  | .code af _ _ => Φ f = some af
  | .nat g => ∀ w H, H.ok → Agf (g w H) (evC Φ f w.cl H.heap)
theorem callZ_ok {look : Nat → ZE} (h : ∀ f, ZEok Φ f (look f)) : ∀ n, AgrZ (callZ look n) (evC Φ)
  | 0 => fun _ _ _ _ => trivial
  | n + 1 => fun f w H hH => by
    show Agf ((entC (look f)).run (callZ look n) w H) _
    have hf := h f
    revert hf
    generalize look f = z
    intro hf
    cases z with
    | none => trivial
    | code af an N => exact fnC_ok (callZ_ok h n) hf an N w H hH
    | nat g => exact hf w H hH
theorem zip_ok {afs : List AFn} {ans : List (An × List Nat)} {f : Nat} : ZEok (fun f => afs[f]?) f (lookZ (zipZ afs ans) f) := by
  rcases zipZ_get afs ans f with h | ⟨af, an, N, h1, h2⟩
  · rw [h]; trivial
  · rw [h1]; exact h2
theorem nats_ok {zs : List ZE} {f : Nat} (hz : ZEok Φ f (lookZ zs f)) : ∀ (l : List (Nat × ZE)), (∀ g e, (g, e) ∈ l → ZEok Φ g e) → ZEok Φ f (natsZ l zs f)
  | [], _ => hz
  | (g, e) :: l, h => by
    simp only [natsZ, beq_dec]
    by_cases hfg : f = g
    · subst hfg; simp only [decide_true, cond_true]; exact h f e (List.mem_cons_self ..)
    · simp only [hfg, decide_false, cond_false]; exact nats_ok hz l fun g' e' hm => h g' e' (List.mem_cons_of_mem _ hm)

/-- nothing lies in memory -/
def ZH.none : ZH := ⟨0, 0, .nil⟩
theorem runZ_ret {look : Nat → ZE} (h : ∀ f, ZEok Φ f (look f)) {n f : Nat} {w : V} {H : ZH} (hH : H.ok) {v : V} {H' : ZH} (hr : callZ look n f w H = .ret v H') : evC Φ f w.cl H.heap = some (.ret v.av H'.heap) := by
  have := callZ_ok h n f w H hH
  rw [hr] at this
  exact this.1
/-- is the answer a truth value, and true? -/
noncomputable def tru : FR → Bool := @FR.rec (fun _ => Bool) (fun v _ => bK v false true false) (fun _ _ => false) false
theorem tru_ret {r : FR} (h : tru r = true) : ∃ H, r = .ret (.b true) H := by
  cases r with
  | ret v H =>
    cases v <;> first | (cases h; done) | skip
    rename_i x
    cases x
    · cases h
    · exact ⟨H, rfl⟩
  | pan v H => cases h
  | bad => cases h
end
end Ey
