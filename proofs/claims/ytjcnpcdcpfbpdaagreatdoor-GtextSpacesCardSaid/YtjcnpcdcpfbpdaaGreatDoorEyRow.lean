/- From a run of the small language to a call of the model; some of the functions alone; the row's last step. -/
import Derived.Test.YtjcnpcdcpfbpdaaGreatDoorEySim5
import Derived.Test.YtjcnpcdcpfbpdaaGreatDoorEyZ8
import Derived.Test.YtjcnpcdcpfbpdaaGreatDoorEyCong
import Derived.Below
import Derived.ChangeSame
namespace Ey
open Go Go.RowKit Go.WideShapes Go.ChangeShapes

/-- no number stands twice -/
def nodupB : List Nat → Bool
  | [] => true
  | x :: l => !l.contains x && nodupB l

theorem nodup_inj : ∀ {l : List Nat}, nodupB l = true → ∀ (t t' i : Nat), l[t]? = some i → l[t']? = some i → t = t'
  | [], _, t, t', i, h, _ => by simp at h
  | x :: l, hn, t, t', i, h, h' => by
    simp only [nodupB, Bool.and_eq_true, Bool.not_eq_true'] at hn
    have hx : x ∉ l := by simpa using hn.1
    cases t with
    | zero =>
      simp at h; subst h
      cases t' with
      | zero => rfl
      | succ t' => simp at h'; exact absurd (List.mem_of_getElem? h') hx
    | succ t =>
      simp at h
      cases t' with
      | zero => simp at h'; subst h'; exact absurd (List.mem_of_getElem? h) hx
      | succ t' => simp at h'; rw [nodup_inj hn.2 t t' i h h']

/-- the check, of the first functions of a list; of the others, that a call may name them -/
def chkSome (C : Cx) (pf : Nat → Bool) : List FuncId → List AFn → Bool
  | [], [] => true
  | fid :: ids, [] => funOK C.P fid && chkSome C pf ids []
  | fid :: ids, af :: afs => funOK C.P fid && chkFn C pf fid af && chkSome C pf ids afs
  | [], _ :: _ => false

theorem chkSome_get {C : Cx} {pf : Nat → Bool} : ∀ {ids : List FuncId} {afs : List AFn}, chkSome C pf ids afs = true → ∀ (f : Nat) (fid : FuncId), ids[f]? = some fid → funOK C.P fid = true ∧ ∀ af, afs[f]? = some af → chkFn C pf fid af = true
  | [], _, _, f, fid, h => by simp at h
  | i :: ids, [], hc, f, fid, h => by
    simp only [chkSome, Bool.and_eq_true] at hc
    cases f with
    | zero => simp at h; subst h; exact ⟨hc.1, fun af ha => by simp at ha⟩
    | succ f => simp at h; exact ⟨(chkSome_get hc.2 f fid h).1, fun af ha => by simp at ha⟩
  | i :: ids, a :: afs, hc, f, fid, h => by
    simp only [chkSome, Bool.and_eq_true] at hc
    cases f with
    | zero =>
      simp at h
      subst h
      exact ⟨hc.1.1, fun af ha => by simp at ha; exact ha ▸ hc.1.2⟩
    | succ f =>
      simp at h
      obtain ⟨h1, h2⟩ := chkSome_get hc.2 f fid h
      exact ⟨h1, fun af ha => h2 af (by simpa using ha)⟩

theorem known_some {C : Cx} {ids : List FuncId} {afs : List AFn} (hfm : C.fm = fun f => ids[f]?) (h : chkSome C (pureF fun f => afs[f]?) ids afs = true) : Known C (fun f => afs[f]?) where
  funs := fun f fid hf => by
    rw [hfm] at hf
    have h1 := (chkSome_get h f fid hf).1
    unfold funOK at h1
    split at h1
    · rename_i fn hfn
      simp only [Bool.and_eq_true, bne_iff_ne, ne_eq] at h1
      obtain ⟨c, hc⟩ := Option.isSome_iff_exists.1 h1.1
      exact ⟨fn, c, hfn, hc, h1.2⟩
    · cases h1
  fns := fun f fid af hf ha => by
    rw [hfm] at hf
    exact (chkSome_get h f fid hf).2 af ha

/-- nothing is known of the memory but what package variables hold -/
def ghG (C : Cx) : Gh := ⟨C.gl, fun _ => none, fun _ _ => none⟩
def ownG (C : Cx) : Own := fun b o => match C.gl b o with
  | some _ => .imm
  | none => .free
def heap0 : Heap := ⟨0, 0, fun _ => none⟩
theorem ownG_some {C : Cx} {b o : Nat} {v : Value} (h : C.gl b o = some v) : ownG C b o = .imm := by simp only [ownG, h]
theorem ownG_or (C : Cx) (b o : Nat) : ownG C b o = .free ∨ (ownG C b o = .imm ∧ ∃ v, C.gl b o = some v) := by
  simp only [ownG]
  cases h : C.gl b o with
  | none => exact .inl rfl
  | some v => exact .inr ⟨rfl, v, rfl⟩

theorem stG (C : Cx) (w : World) (hw : ∀ b o v, C.gl b o = some v → w.cell? ⟨b, o, none⟩ = some v ∧ b < w.heap.size) : St C (ghG C) (ownG C) w.heap.size heap0 w where
  imm := fun b o v h => ⟨ownG_some h, (hw b o v h).1⟩
  obj := fun _ _ h => by cases h
  arr := fun _ _ _ _ h => by cases h
  mp := fun _ _ h => by cases h
  next := fun _ _ => ⟨rfl, rfl, fun _ => rfl⟩
  ext := fun b o => by
    rcases ownG_or C b o with h | ⟨_, v, h⟩
    · exact .inl h
    · exact .inr (hw b o v h).2
  base := fun b o ⟨x, hx⟩ => by
    rcases ownG_or C b o with h | ⟨h, _⟩ <;> rw [h] at hx <;> rcases hx with hx | hx <;> cases hx
  size := Nat.le_refl _
  ro := Nat.le_refl _
  gl := fun _ _ _ h => h

theorem none_heap : ZH.none.heap = heap0 := rfl

/-- a call without arguments -/
theorem closed_calls {C : Cx} {Φ : Nat → Option AFn} (hK : Known C Φ) {f : Nat} {fid : FuncId} (hf : C.fm f = some fid) {b : Bool} {H' : Heap} (h : evC Φ f [] heap0 = some (.ret (.bool b) H')) (w : World)
    (hw : ∀ b o v, C.gl b o = some v → w.cell? ⟨b, o, none⟩ = some v ∧ b < w.heap.size) :
    Calls C.P fid #[] w fun e w' => e = .returned (.bool b) ∧ Below w.heap.size w w' := by
  refine (calls_ev hK f [] heap0 _ h fid hf (ghG C) (ownG C) w.heap.size w #[] (stG C w hw) (fun b o s h => by rcases ownG_or C b o with h' | ⟨h', _⟩ <;> rw [h'] at h <;> cases h) rfl (fun i x y hx => by simp at hx)).mono fun e w' hq => ?_
  obtain ⟨g', own', _, ⟨rv, rfl, hrv⟩, hE, _⟩ := hq
  cases hrv
  exact ⟨rfl, hE.below⟩

/-- a call of plain arguments -/
theorem args_calls {C : Cx} {Φ : Nat → Option AFn} (hK : Known C Φ) {f : Nat} {fid : FuncId} (hf : C.fm f = some fid) {vs : List AV} {ws : Array Value} (hl : vs.length = ws.size) (hv : ∀ (g : Gh) (i : Nat) (x : AV) (y : Value), vs[i]? = some x → ws[i]? = some y → VR C g x y)
    {b : Bool} {H' : Heap} (h : evC Φ f vs heap0 = some (.ret (.bool b) H')) (w : World)
    (hw : ∀ b o v, C.gl b o = some v → w.cell? ⟨b, o, none⟩ = some v ∧ b < w.heap.size) :
    Calls C.P fid ws w fun e w' => e = .returned (.bool b) ∧ Below w.heap.size w w' := by
  refine (calls_ev hK f vs heap0 _ h fid hf (ghG C) (ownG C) w.heap.size w ws (stG C w hw) (fun b o s h => by rcases ownG_or C b o with h' | ⟨h', _⟩ <;> rw [h'] at h <;> cases h) hl (hv _)).mono fun e w' hq => ?_
  obtain ⟨g', own', _, ⟨rv, rfl, hrv⟩, hE, _⟩ := hq
  cases hrv
  exact ⟨rfl, hE.below⟩

/-- what a call that gives its memory up leaves of it -/
theorem pure_ret {Φ : Nat → Option AFn} {f : Nat} {af : AFn} (hf : Φ f = some af) (hp : af.pure = true) {vs : List AV} {H H' : Heap} {v : AV} (h : evC Φ f vs H = some (.ret v H')) : H' = H := by
  obtain ⟨n, hn⟩ := evC_iff.1 h
  cases n with
  | zero => cases hn
  | succ n =>
    simp only [callN, hf] at hn
    split at hn
    · cases hx : exec n (callN Φ n) af.code (initEnv 0 vs) (bodyH af H) with
      | none => rw [hx] at hn; cases hn
      | some o =>
        rw [hx] at hn
        rcases o with ⟨q, e, H1⟩ | ⟨w, e, H1⟩
        · cases q <;> simp only [finS, hp, if_true] at hn
          all_goals
            repeat' (split at hn)
            all_goals first | (cases hn; done) | (simp only [Option.some.injEq, CRes.ret.injEq] at hn; exact hn.2.symm)
        · simp only [finS, hp, if_true] at hn
          split at hn <;> cases hn
    · cases hn

/-! ### a closed function that answers true, run once -/
noncomputable def nilB (bl : HB) (d k : FR) : FR := @HB.rec (fun _ => FR) k (fun _ _ _ _ => d) (fun _ _ _ _ _ _ _ => d) (fun _ _ _ _ => d) bl
noncomputable def onceZ : ZE := .nat fun w H => nxK w .bad (@ZH.rec (fun _ => FR) (fun nx ro bl => ifB (Nat.beq nx 0) .bad (ifB (Nat.beq ro 0) .bad (nilB bl .bad (.ret (.b true) ZH.none)))) H)
theorem once_ok {Φ : Nat → Option AFn} {f : Nat} (h : evC Φ f [] heap0 = some (.ret (.bool true) heap0)) : ZEok Φ f onceZ := fun w H hH => by
  obtain ⟨nx, ro, bl⟩ := H
  refine nxK_ok (P := fun r => Agf r _) trivial fun hw => ?_
  subst hw
  show Agf (ifB (Nat.beq nx 0) .bad (ifB (Nat.beq ro 0) .bad (nilB bl .bad (.ret (.b true) ZH.none)))) _
  rw [ifB_beq]
  split
  · rw [ifB_beq]
    split
    · rename_i h1 h2
      subst h1; subst h2
      cases bl with
      | nil => exact ⟨h, trivial, rfl⟩
      | _ => trivial
    · trivial
  · trivial

/-! ### all of some first numbers -/
noncomputable def allN (p : Nat → Bool) : Nat → Bool := @Nat.rec (fun _ => Bool) true (fun i ih => ifB (p i) false ih)
theorem allN_ok {p : Nat → Bool} : ∀ {n : Nat}, allN p n = true → ∀ i, i < n → p i = true
  | 0, _, i, hi => by omega
  | n + 1, h, i, hi => by
    have h' : ifB (p n) false (allN p n) = true := h
    cases hn : p n with
    | false => rw [hn] at h'; cases h'
    | true =>
      rw [hn] at h'
      by_cases hin : i = n
      · rw [hin]; exact hn
      · exact allN_ok (n := n) h' i (by omega)

theorem wrap_small {n : Nat} (h : n < 9223372036854775808) : IntKind.wrap .i64 (n : Int) = n := wrap64 (by omega) (by omega)

theorem tmod_cast (a m : Nat) : ((a % m : Nat) : Int).tmod m = (a : Int).tmod m := by
  rw [Int.ofNat_tmod, ← Int.ofNat_tmod, ← Int.ofNat_tmod, Nat.mod_mod]

section
variable {H : Type} {enc : TypeId × Value → H} {P : Program}
/-- the row's last step, where no more is known of the memory than that what there was is as it was -/
theorem post_low {f : Func} {s : ChangeSpec} {apart fresh handsOn again : Bool} {W W' : World} {args : Array Value} {v : Value} {ds gs : List (DataW H)} {before pa pv : List MemPlace}
    (hW : DataW.Whole enc P f.params.toList s.vars apart W args.toList ds gs before)
    (hres : ∀ (b : Nat) (sp : Nat → Bool) (hd : Bool), DataW.TrodAll enc P W' b sp hd f.resultTypes.toList (v.resultList f.resultTypes.size) (s.fn H (ds ++ gs)).results [])
    (hargs : ∀ sp : Nat → Bool, (∀ p ∈ before, sp p.block = true) → DataW.TrodAll enc P W' 0 sp true f.params.toList args.toList (s.fn H (ds ++ gs)).args pa)
    (hvars : ∀ sp : Nat → Bool, (∀ p ∈ before, sp p.block = true) → DataW.TrodVars enc P W' sp s.vars (s.fn H (ds ++ gs)).vars pv)
    (hps : before = pa ++ pv) (hb : Below W.heap.size W W')
    (hok : ∀ (j : Nat) (t : TypeId) (r : Value), f.resultTypes[j]? = some t → (v.resultList f.resultTypes.size)[j]? = some r → Value.okWide P W' .any 0 t r) :
    s.post enc P f apart fresh handsOn again W args v W' := by
  have old : ∀ p ∈ before, p.block < W.heap.size := fun p hp => hW.lt p hp
  have seen : ∀ p ∈ before, (fun b => decide (b < W.heap.size)) p.block = true := fun p hp => by simpa using old p hp
  refine ⟨ds, gs, before, [], pa, pv, hW, hres _ _ _, hargs _ seen, hvars _ seen, World.keptBut_mono (fun p hp => ⟨hp, ?_⟩) (hb.frame (· ∈ before)), fun _ => ?_⟩
  · rw [hps] at hp
    exact .inr (List.mem_append.1 hp)
  · obtain ⟨_, _, _, _, _, hz, hn⟩ := hW
    refine ⟨hok, _, _, ([] ++ pa) ++ pv, ⟨[] ++ pa, pv, trodAll_append (hargs _ (fun _ _ => rfl)) (hres _ _ _), hvars _ (fun _ _ => rfl), rfl, fun b off hp => ?_, fun ha => ?_⟩, fun p hp _ => ?_⟩
    · have hin : MemPlace.cell b off ∈ before := by rw [hps]; simpa using hp
      rw [hb.frozen (old _ hin)]
      exact hz b off hin
    · have := hn ha
      rw [hps] at this
      simpa using this
    · rw [hps]
      simpa using hp
end
end Ey
