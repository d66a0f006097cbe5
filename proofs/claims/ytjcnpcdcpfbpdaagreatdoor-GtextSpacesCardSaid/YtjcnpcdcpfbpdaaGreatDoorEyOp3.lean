/- Held against nil, slices of slices and texts, interfaces, functions: what the model does, out of what ours does. -/
import Derived.Test.YtjcnpcdcpfbpdaaGreatDoorEyOp2
namespace Ey
open Go Go.RowKit

def isConstO : Operand → Bool
  | .const _ => true
  | _ => false

def eqTyOK (P : Program) (k : EqK) (t : TypeId) (y : Operand) : Bool :=
  match k, P.underlying t with
  | .bool, some .bool => true
  | .ptr, some (.pointer _) => true
  | .slice, some (.slice _) => true
  | .fn, some (.func ..) => true
  | .iface, some (.interface _) => isConstO y
  | .map, some (.map ..) => true
  | _, _ => false

section
variable {C : Cx} {g : Gh} {own : Own} {B : Nat} {H : Heap} {w : World} {env : Env} {a : Act} {n : Nat} {L : List Nat}

theorem equal_run {t : TypeId} {u v : Value} {b : Bool} (h : ∀ d, (Op.equalIn (d + 1) t u v).run C.P w = .ok b w) : (Op.equal t u v).run C.P w = .ok b w := h 9999

theorem eq_of_equal {u v : Value} {t : TypeId} {x y : Operand} {r : Bool} (hg : ∀ op, (eqGuard op t x y u v).run C.P w = .ok () w) (he : (Op.equal t u v).run C.P w = .ok r w)
    (h1 : Go.binOp .eql t u v = (do pure (.bool (← Op.equal t u v)))) (h2 : Go.binOp .neq t u v = (do pure (.bool (!(← Op.equal t u v))))) (neg : Bool) :
    (do eqGuard (if neg then .neq else .eql) t x y u v; Go.binOp (if neg then .neq else .eql) t u v : Sem Value).run C.P w = .ok (.bool (r != neg)) w := by
  cases neg
  · simp only [Bool.false_eq_true, if_false, Sem.run_bind, hg, Result.andThen_ok, h1, he, Sem.run_pure, Bool.bne_false]
  · simp only [if_true, Sem.run_bind, hg, Result.andThen_ok, h2, he, Sem.run_pure, Bool.bne_true]

theorem iface_nil {t : TypeId} {x y : Operand} {ms : Array (String × TypeId)} (hu : C.P.underlying t = some (.interface ms)) (hy : isConstO y = true) (neg : Bool) :
    (do eqGuard (if neg then .neq else .eql) t x y .nilIface .nilIface; Go.binOp (if neg then .neq else .eql) t .nilIface .nilIface : Sem Value).run C.P w = .ok (.bool (true != neg)) w := by
  cases y <;> try (simp [isConstO] at hy; done)
  exact eq_of_equal (fun op => by cases op <;> simp [eqGuard]) (equal_run (fun d => by simp [Op.equalIn, run_underlying hu])) rfl rfl neg

set_option maxHeartbeats 1000000 in
theorem eq_sim {k : EqK} {p q : AV} {r : Bool} (hz : eqAV k p q = some r) {u v : Value} (hp : VR C g p u) (hq : VR C g q v) {t : TypeId} {x y : Operand} (ht : eqTyOK C.P k t y = true) (neg : Bool) :
    (do eqGuard (if neg then .neq else .eql) t x y u v; Go.binOp (if neg then .neq else .eql) t u v : Sem Value).run C.P w = .ok (.bool (r != neg)) w := by
  unfold eqTyOK at ht
  split at ht <;> rename_i hu
  case h_7 => simp at ht
  all_goals
    unfold eqAV at hz
    split at hz <;> (first | (simp at hz; done) | skip) <;> (first | (rename_i hk; cases hk; done) | skip)
  all_goals
    simp only [Option.some.injEq] at hz
    first | subst hz | skip
    cases hp <;> cases hq
  all_goals first
    | exact iface_nil hu ht neg
    | exact eq_of_equal (fun op => by cases op <;> simp [eqGuard]) (equal_run (fun d => by simp [Op.equalIn, run_underlying hu])) rfl rfl neg
end
end Ey
