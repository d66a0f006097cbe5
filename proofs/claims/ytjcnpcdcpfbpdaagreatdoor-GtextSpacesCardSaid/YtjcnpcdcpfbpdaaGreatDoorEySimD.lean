/- Functions that defer a function value which recovers. -/
import Derived.Test.YtjcnpcdcpfbpdaaGreatDoorEySim4
import Derived.Recover
namespace Ey
open Go Go.RowKit

def lvsOps : List AInstr → List Nat
  | [] => []
  | i :: is => (match i.op, i.dst with
    | .alv _, some d => [d]
    | .blv _ _, some d => [d]
    | _, _ => []) ++ lvsOps is

/-- where a function makes its local variables -/
def lvsOf : ACode → List Nat
  | .ops l => lvsOps l
  | .dops l => lvsOps l
  | .seq a b => lvsOf a ++ lvsOf b
  | .cond _ a b => lvsOf a ++ lvsOf b
  | .block _ a => lvsOf a
  | .loop _ a => lvsOf a
  | .dfr _ _ _ _ a _ => lvsOf a
  | _ => []

/-- the region that makes the function value and defers it -/
def chkDefer (C : Cx) (n : Nat) (L : List Nat) (ops : Array Oper) (s f : Nat) (cap : List Opd) : Bool :=
  match ops.toList with
  | [o, p] => o.dst == some s && o.guard == none && p.dst == none && p.guard == none && dstOKb n L (some s) && chkSt C n L o.op (some s) (.mkfn f cap) && (match p.op with
      | .defer c => (match c.callee with
        | .value (.tmp s') => s' == s && c.args.isEmpty
        | _ => false)
      | _ => false)
  | _ => false

/-- the function value's code: it recovers first -/
def chkClo (C : Cx) (pf : Nat → Bool) (fid : FuncId) (nc rs : Nat) (clo : ACode) : Bool :=
  match C.P.funcs[fid]? with
  | none => false
  | some fn => match fn.body with
    | some (.seq (.region _ ops draw) c) => (match clo with
      | .seq (.ops is) ac => !draw && fn.results.isEmpty && decide (nc ≤ fn.ntmps) && (match ops.toList with
        | o :: os => o.dst == some rs && o.guard == none && dstOKb fn.ntmps (lvsOf clo) (some rs) && (match o.op with
            | .call c => (match c.callee with
              | .builtin .recover => true
              | _ => false)
            | _ => false) && chkOps C fn.ntmps (lvsOf clo) ops os is && chkCode C pf fn.ntmps (lvsOf clo) c ac
        | [] => false)
      | _ => false)
    | _ => false

def chkD (C : Cx) (pf : Nat → Bool) (n : Nat) (L : List Nat) : Code → ACode → Bool
  | .seq x y, .seq x' y' => chkCode C pf n L x x' && chkD C pf n L y y'
  | .seq (.region _ ops draw) y, .dfr s f cap rs body clo => !draw && chkDefer C n L ops s f cap && chkCode C pf n L y body && (match C.fm f with
      | some fid => chkClo C pf fid cap.length rs clo
      | none => false)
  | _, _ => false

section
variable {P : Program}

theorem Oper.upon_mono2 {o : Oper} {a : Act} {K K' : Act → World → Prop} {Q Q' : Exit → Act → World → Prop} (h : ∀ a w, K a w → K' a w) (hq : ∀ e a w, Q e a w → Q' e a w) {r : Result Next}
    (hh : o.upon P a K Q r) : o.upon P a K' Q' r := by
  cases r with
  | ok n w' =>
    cases n <;> simp only [Oper.upon] at hh ⊢ <;>
      first
        | exact h _ _ hh
        | exact Calls.mono hh (fun e w'' he => by cases e <;> first | exact h _ _ he | exact hq _ _ _ he | exact let ⟨a, w, k⟩ := he; ⟨a, w, hq _ _ _ k⟩)
        | exact Rows.mono hh (fun _ _ he => h _ _ he)
  | halt x w' => cases x <;> simp only [Oper.upon] at hh ⊢ <;> first | exact hq _ _ _ hh | exact hh

theorem wpOpsS_of_list {ops : Array Oper} {Q : Exit → Act → World → Prop} {Q' : Exit → Act → List Frame → World → Prop} {cs : List Frame} (hno : ¬ LetsOut Q) (hq : ∀ e a w, Q e a w → Q' e a cs w) :
    ∀ (l : List Oper) (k : Nat), (∀ j, l[j]? = ops[k + j]?) → ∀ (a : Act) (w : World), wpList P ops Q l a w → wpOpsS P ops Q' (List.range' k l.length) a cs w
  | [], k, h, a, w, hw => hq _ _ _ hw
  | o :: l, k, h, a, w, hw => by
    have h0 : ops[k]? = some o := by simpa using (h 0).symm
    have ih := wpOpsS_of_list hno hq l (k + 1) (fun j => by have := h (j + 1); simpa [Nat.add_assoc, Nat.add_comm 1 j] using this)
    simp only [List.length_cons, List.range'_succ, wpOpsS, h0]
    simp only [wpList] at hw
    split
    · rename_i hwt
      rw [if_pos hwt] at hw
      rcases hw with hw | hw
      · unfold Oper.wp at hw
        split
        · rename_i w' hr
          rw [hr] at hw
          exact hw.elim
        · exact Oper.upon_mono2 (fun a w h => ih a w h) (fun e a w h => hq e a w h) hw
      · exact absurd hw.2 hno
    · rename_i hwt
      rw [if_neg hwt] at hw
      exact ih _ _ hw

theorem wpOpsS_recover {ops : Array Oper} {o : Oper} {Q : Exit → Act → List Frame → World → Prop} {rest : List Nat} {a : Act} {cs : List Frame} {w : World} (h0 : ops[0]? = some o) (hw : Region.wanted o (yielded ops a.tmps) = true)
    (hr : (execOp a.eval o).run P w = .ok .recover w) (h : match recoverD cs with
      | some (v, cs') => wpOpsS P ops Q rest (a.put o.dst v) cs' w
      | none => wpOpsS P ops Q rest (a.put o.dst .nilIface) cs w) : wpOpsS P ops Q (0 :: rest) a cs w := by
  simp only [wpOpsS, h0, hw, if_true, hr]
  exact h

theorem allAV_len {e : Env} : ∀ {l : List Opd} {vs : List AV}, allAV e l = some vs → vs.length = l.length
  | [], vs, h => by simp only [allAV, Option.some.injEq] at h; subst h; rfl
  | o :: l, vs, h => by
    simp only [allAV] at h
    cases hv : e.av o with
    | none => rw [hv] at h; cases h
    | some v =>
      rw [hv] at h
      cases hl : allAV e l with
      | none => rw [hl] at h; cases h
      | some us =>
        rw [hl] at h
        simp only [Option.map_some, Option.some.injEq] at h
        subst h
        simp [allAV_len hl]

end

section
variable {C : Cx} {g0 g : Gh} {own0 own : Own} {B : Nat} {H0 H : Heap} {w0 w : World} {env : Env} {a : Act} {n : Nat} {L : List Nat}

theorem outR_in {df : List Deferred} {out : Out} : ¬ LetsOut (OutR C g0 own0 B H0 w0 n L df out) := by
  rintro ⟨a, w, h⟩
  cases out with
  | go x e' H' => obtain ⟨h1, _⟩ := h; cases x <;> cases h1
  | pan v e' H' => obtain ⟨pv, h1, _⟩ := h; cases h1

/-- a region that makes a function value and defers it -/
theorem defer_region (hfun : FunsOK C) {cl : Caller} (hcl : CallsOK C cl) {id : Nat} {ops : Array Oper} {s f : Nat} {cap : List Opd} (hc : chkDefer C n L ops s f cap = true) {cs : List AV} (hcs : allAV env cap = some cs)
    (hS : St C g own B H w) (hF : Fr C g own w env a.tmps n L) (hd : a.defers = []) :
    (Code.region id ops false).wp C.P (fun e a1 w1 => e = .normal ∧ ∃ fid vs g' own', C.fm f = some fid ∧ a1.defers = [{ target := .fn (.func fid) vs, args := #[] }] ∧ cs.length = vs.size ∧
      (∀ (i : Nat) (x : AV) (y : Value), cs[i]? = some x → vs[i]? = some y → VR C g' x y) ∧ Ext g own B H w g' own' H w1 ∧ St C g' own' B H w1 ∧ Fr C g' own' w1 ((s, .v (.fn f cs)) :: env) a1.tmps n L) a w := by
  unfold chkDefer at hc
  split at hc
  · rename_i o p hops
    simp only [Bool.and_eq_true, beq_iff_eq] at hc
    obtain ⟨⟨⟨⟨⟨⟨h1, h2⟩, h3⟩, h4⟩, h5⟩, h6⟩, h7⟩ := hc
    refine wp_region_list ?_
    rw [hops]
    refine wpList_step fun K hK => ?_
    have hw1 : Region.wanted o (yielded ops a.tmps) = true := by simp [Region.wanted, h2]
    rw [hw1]
    simp only [if_true]
    have hx : opS cl (some s) env H (.mkfn f cap) = some (.go .nrm ((s, .v (.fn f cs)) :: env) H) := by
      simp only [opS, opv, hcs, setDst]
    refine op_sim hfun hS hF hcl h1 h6 hx ⟨fun x e' H' he g' own' w' a' hE' hS' hF' hd' => ?_, fun v e' H' he => by cases he⟩
    cases he
    refine hK _ _ ?_
    refine wpList_step fun K2 hK2 => ?_
    have hw2 : Region.wanted p (yielded ops a'.tmps) = true := by simp [Region.wanted, h4]
    rw [hw2]
    simp only [if_true]
    have hsl := hF'.slots s
    have hget : Env.get ((s, .v (.fn f cs)) :: env) s = .v (.fn f cs) := by simp [Env.get]
    simp only [SlotOK, hget] at hsl
    split at h7
    · rename_i c hop
      split at h7
      · rename_i s' hcal
        simp only [Bool.and_eq_true, beq_iff_eq] at h7
        obtain ⟨rfl, harg⟩ := h7
        have hev : a'.eval (.tmp s') = tmOf a'.tmps s' := rfl
        generalize hv : tmOf a'.tmps s' = v at hsl hev
        cases hsl with
        | fn _ _ fid vs hf hl hall =>
          have hargs : c.args = #[] := by simpa using harg
          have hrun : (execOp a'.eval p).run C.P w' = .ok (.defer { target := .fn (.func fid) vs, args := #[] }) w' := by
            obtain ⟨dst, op, type, pos, after, guard⟩ := p
            simp only at hop
            subst hop
            obtain ⟨callee, args, ats⟩ := c
            simp only at hcal hargs
            subst hcal
            subst hargs
            simp [execOp, resolve, hev, Deferred.ofValue]
          unfold Oper.wp
          rw [hrun]
          simp only [Oper.upon, h3, Act.put]
          refine hK2 _ _ ?_
          refine ⟨rfl, fid, vs, g', own', hf, ?_, hl, fun i x y hx hy => ?_, hE', hS', hF'⟩
          · simp [hd'.trans hd]
          · exact hall i x y hx hy
      · cases h7
    · cases h7
  · cases hc

end
end Ey
