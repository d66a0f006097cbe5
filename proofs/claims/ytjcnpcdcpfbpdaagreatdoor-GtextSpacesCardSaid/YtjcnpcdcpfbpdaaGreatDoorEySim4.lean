/- Code. -/
import Derived.Test.YtjcnpcdcpfbpdaaGreatDoorEyDraw5
namespace Ey
open Go Go.RowKit

def ghosts : List AInstr → Bool
  | [] => true
  | i :: is => (match i.op with | .frz _ _ => i.dst == none && i.guard == none | _ => false) && ghosts is

def chkCode (C : Cx) (pf : Nat → Bool) (n : Nat) (L : List Nat) : Code → ACode → Bool
  | .skip, .skip => true
  | .region _ ops draw, .ops is => !draw && chkOps C n L ops ops.toList is
  | .region _ ops draw, .dops is => draw && chkDraw C pf n L ops is
  | .seq x y, .seq x' y' => chkCode C pf n L x x' && chkCode C pf n L y y'
  | .cond c x y, .cond c' x' y' => opdOK C c c' && chkCode C pf n L x x' && chkCode C pf n L y y'
  | .block i x, .block j x' => i == j && chkCode C pf n L x x'
  | .loop x, .loop _ x' => chkCode C pf n L x x'
  | .exit i, .exit j => i == j
  | .ret, .ret => true
  | .ret, .seq (.ops is) .ret => ghosts is
  | _, _ => false

section
variable {C : Cx} {g0 g : Gh} {own0 own : Own} {B : Nat} {H0 H : Heap} {w0 w : World} {env : Env} {a : Act} {n : Nat} {L : List Nat}

theorem keep_get (l : List Nat) (e : Env) (s : Nat) : (keepS l e).get s = if s ∈ l then (match e.get s with | .lp _ _ => .no | x => x) else .no := by
  induction l with
  | nil => rfl
  | cons k l ih =>
    have hcons : (keepS (k :: l) e).get s = if s = k then (match e.get k with | .lp _ _ => .no | x => x) else (keepS l e).get s := rfl
    rw [hcons, ih]
    by_cases h : s = k
    · subst h; simp
    · rw [if_neg h]
      simp [h]

theorem Fr.keep {tmps : Array Value} (hF : Fr C g own w env tmps n L) (l : List Nat) : Fr C g own w (keepS l env) tmps n L where
  size := hF.size
  gl := hF.gl
  slots := fun s => by
    simp only [SlotOK, keep_get]
    by_cases hs : s ∈ l
    · simp only [hs, if_true]
      have h := hF.slots s
      simp only [SlotOK] at h
      cases he : env.get s with
      | no => trivial
      | un => rw [he] at h; exact h
      | v x => rw [he] at h; exact h
      | lv cs => rw [he] at h; exact h
      | lp s' off => trivial
    · simp only [hs, if_false]
  lvs := fun s cs h => by
    rw [keep_get] at h
    by_cases hs : s ∈ l
    · rw [if_pos hs] at h
      cases he : env.get s with
      | lv cs' => exact hF.lvs s cs' he
      | no => rw [he] at h; cases h
      | un => rw [he] at h; cases h
      | v x => rw [he] at h; cases h
      | lp s' off => rw [he] at h; cases h
    · rw [if_neg hs] at h; cases h

theorem cond_rel (hF : Fr C g own w env a.tmps n L) {x : Operand} {y : Opd} (h : opdOK C x y = true) {b : Bool} (hb : env.av y = some (.bool b)) : a.eval x = .bool b := by
  have := av_rel hF h hb
  generalize a.eval x = v at this
  cases this
  rfl

theorem ghosts_sim {cl : Caller} : ∀ {is : List AInstr} {g : Gh} {own : Own} {H : Heap} {env : Env} {out : Out}, ghosts is = true → opsS cl is env H = some out → Ext g0 own0 B H0 w0 g own H w → St C g own B H w → Fr C g own w env a.tmps n L →
    ∃ e' H' g' own', out = .go .nrm e' H' ∧ Ext g0 own0 B H0 w0 g' own' H' w ∧ St C g' own' B H' w ∧ Fr C g' own' w e' a.tmps n L
  | [], g, own, H, env, out, _, ho, hE, hS, hF => by
    simp only [opsS, Option.some.injEq] at ho
    exact ⟨env, H, g, own, ho.symm, hE, hS, hF⟩
  | i :: is, g, own, H, env, out, hg, ho, hE, hS, hF => by
    simp only [ghosts, Bool.and_eq_true] at hg
    obtain ⟨h1, h2⟩ := hg
    split at h1
    · rename_i s hi
      simp only [Bool.and_eq_true, beq_iff_eq] at h1
      simp only [opsS, h1.2, wantedS] at ho
      cases hx : opS cl i.dst env H i.op with
      | none => rw [hx] at ho; cases ho
      | some o1 =>
        obtain ⟨e', H', rfl, hst⟩ := frz_op hS hF (hi ▸ hx)
        rw [hx] at ho
        obtain ⟨g', own', k1, k2, k3⟩ := still_ext hE hst
        exact ghosts_sim h2 ho k1 k2 k3
    · cases h1

theorem exec_sim (hfun : FunsOK C) {cl : Caller} (hcl : CallsOK C cl) {pf : Nat → Bool} (hp : PureC pf cl) {df : List Deferred} {m : Nat} : ∀ {ac : ACode} {c : Code} {g : Gh} {own : Own} {H : Heap} {w : World} {env : Env} {a : Act} {out : Out},
    chkCode C pf n L c ac = true → exec m cl ac env H = some out → Ext g0 own0 B H0 w0 g own H w → St C g own B H w → Fr C g own w env a.tmps n L → a.defers = df →
    c.wp C.P (OutR C g0 own0 B H0 w0 n L df out) a w := by
  intro ac
  induction ac with
  | skip =>
    intro c g own H w env a out hc ho hE hS hF hdf
    cases c <;> simp only [chkCode] at hc <;> try (cases hc; done)
    simp only [exec, Option.some.injEq] at ho
    subst ho
    exact wp_skip ⟨rfl, hdf, g, own, hE, hS, hF⟩
  | ops is =>
    intro c g own H w env a out hc ho hE hS hF hdf
    cases c <;> simp only [chkCode] at hc <;> try (cases hc; done)
    rename_i id ops draw
    simp only [Bool.and_eq_true, Bool.not_eq_true'] at hc
    obtain ⟨h1, h2⟩ := hc
    subst h1
    exact wp_region_list (ops_sim hfun hcl h2 ho hE hS hF hdf)
  | dops is =>
    intro c g own H w env a out hc ho hE hS hF hdf
    cases c <;> simp only [chkCode] at hc <;> try (cases hc; done)
    rename_i id ops draw
    simp only [Bool.and_eq_true] at hc
    obtain ⟨h1, h2⟩ := hc
    subst h1
    simp only [exec] at ho
    cases hx : opsS cl is env H with
    | none => rw [hx] at ho; cases ho
    | some o1 =>
      rw [hx] at ho
      cases o1 with
      | pan v e' H' => cases ho
      | go q e' H' =>
        simp only [Option.some.injEq] at ho
        subst ho
        exact draw_sim hfun hcl hp h2 hx hE hS hF hdf
  | seq x' y' ihx ihy =>
    intro c g own H w env a out hc ho hE hS hF hdf
    simp only [exec] at ho
    cases c <;> try (simp only [chkCode] at hc; cases hc; done)
    case seq x y =>
      simp only [chkCode, Bool.and_eq_true] at hc
      cases hx : exec m cl x' env H with
      | none => rw [hx] at ho; cases ho
      | some o1 =>
        rw [hx] at ho
        refine wp_seq (wp_mono (ihx hc.1 hx hE hS hF hdf) fun e a1 w1 hq => ?_)
        cases o1 with
        | go q e' H' =>
          obtain ⟨rfl, hd1, g1, own1, hE1, hS1, hF1⟩ := hq
          cases q with
          | nrm => exact ihy hc.2 ho hE1 hS1 hF1 hd1
          | exit i => simp only [Option.some.injEq] at ho; subst ho; exact ⟨rfl, hd1, g1, own1, hE1, hS1, hF1⟩
          | ret => simp only [Option.some.injEq] at ho; subst ho; exact ⟨rfl, hd1, g1, own1, hE1, hS1, hF1⟩
        | pan v e' H' =>
          simp only [Option.some.injEq] at ho
          subst ho
          obtain ⟨pv, rfl, hrest⟩ := hq
          exact ⟨pv, rfl, hrest⟩
    case ret =>
      cases x' <;> try (simp only [chkCode] at hc; cases hc; done)
      cases y' <;> simp only [chkCode] at hc <;> try (cases hc; done)
      rename_i is
      simp only [exec] at ho
      cases hx : opsS cl is env H with
      | none => rw [hx] at ho; cases ho
      | some o1 =>
        obtain ⟨e', H', g', own', rfl, hE', hS', hF'⟩ := ghosts_sim hc hx hE hS hF
        rw [hx] at ho
        simp only [Option.some.injEq] at ho
        subst ho
        exact wp_ret ⟨rfl, hdf, g', own', hE', hS', hF'⟩
  | cond c' x' y' ihx ihy =>
    intro c g own H w env a out hc ho hE hS hF hdf
    cases c <;> simp only [chkCode] at hc <;> try (cases hc; done)
    simp only [Bool.and_eq_true] at hc
    simp only [exec] at ho
    split at ho
    · rename_i hb
      exact wp_cond_true (cond_rel hF hc.1.1 hb) (ihx hc.1.2 ho hE hS hF hdf)
    · rename_i hb
      exact wp_cond_false (cond_rel hF hc.1.1 hb) (ihy hc.2 ho hE hS hF hdf)
    · cases ho
  | block i x' ih =>
    intro c g own H w env a out hc ho hE hS hF hdf
    cases c <;> simp only [chkCode] at hc <;> try (cases hc; done)
    simp only [Bool.and_eq_true, beq_iff_eq] at hc
    obtain ⟨rfl, hc⟩ := hc
    simp only [exec] at ho
    cases hx : exec m cl x' env H with
    | none => rw [hx] at ho; cases ho
    | some o1 =>
      rw [hx] at ho
      refine wp_block (wp_mono (ih hc hx hE hS hF hdf) fun e a1 w1 hq => ?_)
      cases o1 with
      | go q e' H' =>
        obtain ⟨rfl, hd1, g1, own1, hE1, hS1, hF1⟩ := hq
        cases q with
        | nrm => simp only [Option.some.injEq] at ho; subst ho; exact ⟨rfl, hd1, g1, own1, hE1, hS1, hF1⟩
        | ret => simp only [Option.some.injEq] at ho; subst ho; exact ⟨rfl, hd1, g1, own1, hE1, hS1, hF1⟩
        | exit j =>
          simp only [exOf, Exit.inBlock]
          simp only at ho
          split at ho
          · rename_i hj
            simp only [Option.some.injEq] at ho
            subst ho
            rw [if_pos hj]
            exact ⟨rfl, hd1, g1, own1, hE1, hS1, hF1⟩
          · rename_i hj
            simp only [Option.some.injEq] at ho
            subst ho
            rw [if_neg hj]
            exact ⟨rfl, hd1, g1, own1, hE1, hS1, hF1⟩
      | pan v e' H' =>
        simp only [Option.some.injEq] at ho
        subst ho
        obtain ⟨pv, rfl, hrest⟩ := hq
        exact ⟨pv, rfl, hrest⟩
  | loop kl x' ih =>
    intro c g own H w env a out hc ho hE hS hF hdf
    cases c <;> simp only [chkCode] at hc <;> try (cases hc; done)
    rename_i x
    simp only [exec] at ho
    have key : ∀ (k : Nat) {g : Gh} {own : Own} {H : Heap} {w : World} {env : Env} {a : Act}, loopS (exec m cl x') kl k env H = some out → Ext g0 own0 B H0 w0 g own H w → St C g own B H w → Fr C g own w env a.tmps n L → a.defers = df →
        ∀ (b : Frame) (kk : List Item) (cs : List Frame), ∃ e a' w', OutR C g0 own0 B H0 w0 n L df out e a' w' ∧ Arrives C.P (lone (b.at a (.code x :: .inLoop x :: kk)) cs w) b kk cs e a' w' := by
      intro k
      induction k with
      | zero => intro g own H w env a ho; cases ho
      | succ k ihk =>
        intro g own H w env a ho hE hS hF hdf b kk cs
        simp only [loopS] at ho
        cases hx : exec m cl x' env H with
        | none => rw [hx] at ho; cases ho
        | some o1 =>
          rw [hx] at ho
          obtain ⟨e, a1, w1, hq, harr⟩ := ih hc hx hE hS hF hdf b (.inLoop x :: kk) cs
          cases o1 with
          | go q e' H' =>
            obtain ⟨rfl, hd1, g1, own1, hE1, hS1, hF1⟩ := hq
            cases q with
            | nrm =>
              obtain ⟨e2, a2, w2, hq2, harr2⟩ := ihk ho hE1 hS1 (hF1.keep kl) hd1 b kk cs
              exact ⟨e2, a2, w2, hq2, .of_steps (Steps.trans harr (.one step_inLoop)) harr2⟩
            | exit i =>
              simp only [Option.some.injEq] at ho
              subst ho
              exact ⟨_, a1, w1, ⟨rfl, hd1, g1, own1, hE1, hS1, hF1⟩, .pass (x := .inLoop x) rfl (fun _ _ => .inl (by simp [exOf])) harr⟩
            | ret =>
              simp only [Option.some.injEq] at ho
              subst ho
              exact ⟨_, a1, w1, ⟨rfl, hd1, g1, own1, hE1, hS1, hF1⟩, .pass (x := .inLoop x) rfl (fun _ _ => .inl (by simp [exOf])) harr⟩
          | pan v e' H' =>
            simp only [Option.some.injEq] at ho
            subst ho
            obtain ⟨pv, rfl, hrest⟩ := hq
            exact ⟨_, a1, w1, ⟨pv, rfl, hrest⟩, .pass (x := .inLoop x) rfl (fun _ _ => .inl (by simp)) harr⟩
    intro b kk cs
    obtain ⟨e, a', w', hq, harr⟩ := key m ho hE hS (hF.keep kl) hdf b kk cs
    exact ⟨e, a', w', hq, .of_steps (.one step_loop) harr⟩
  | exit i =>
    intro c g own H w env a out hc ho hE hS hF hdf
    cases c <;> simp only [chkCode] at hc <;> try (cases hc; done)
    simp only [beq_iff_eq] at hc
    subst hc
    simp only [exec, Option.some.injEq] at ho
    subst ho
    exact wp_exit ⟨rfl, hdf, g, own, hE, hS, hF⟩
  | ret =>
    intro c g own H w env a out hc ho hE hS hF hdf
    cases c <;> simp only [chkCode] at hc <;> try (cases hc; done)
    simp only [exec, Option.some.injEq] at ho
    subst ho
    exact wp_ret ⟨rfl, hdf, g, own, hE, hS, hF⟩
  | dfr s f cap rs body clo ihb ihc =>
    intro c g own H w env a out hc ho hE hS hF hdf
    cases c <;> simp only [chkCode] at hc <;> cases hc
end
end Ey
