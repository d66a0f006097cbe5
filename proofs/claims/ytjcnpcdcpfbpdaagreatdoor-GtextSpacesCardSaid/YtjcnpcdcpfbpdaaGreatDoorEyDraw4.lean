/- A region whose order does not matter: the model's. -/
import Derived.Test.YtjcnpcdcpfbpdaaGreatDoorEyDraw3
import Derived.Test.YtjcnpcdcpfbpdaaGreatDoorEySim3
import Derived.Orders
namespace Ey
open Go Go.RowKit

def maskOf (acc : List Nat) (o : Oper) : Nat :=
  o.after.toList.foldr (fun e m => if Region.binds .any e then (m ||| 2 ^ e.on) ||| acc.getD e.on 0 else m) 0

/-- for each operation: those that must come ahead of it, as bits -/
def masks : List Oper → List Nat → List Nat
  | [], acc => acc
  | o :: r, acc => masks r (acc ++ [maskOf acc o])

def backB : Nat → List Oper → Bool
  | _, [] => true
  | k, o :: r => o.after.toList.all (fun e => !Region.binds .any e || decide (e.on < k)) && backB (k + 1) r

def chkOne (C : Cx) (n : Nat) (L : List Nat) (ops : Array Oper) (o : Oper) (i : AInstr) : Bool :=
  o.dst == i.dst && guardOK ops n L i.dst o.guard i.guard && chkSt C n L o.op i.dst i.op && okOne L i

def chkOnes (C : Cx) (n : Nat) (L : List Nat) (ops : Array Oper) : List Oper → List AInstr → Bool
  | [], [] => true
  | o :: os, i :: is => chkOne C n L ops o i && chkOnes C n L ops os is
  | _, _ => false

def pairsB (pf : Nat → Bool) (is : List AInstr) (ms : List Nat) (m : Nat) : Bool :=
  (List.range m).all fun k => (List.range k).all fun j => (ms.getD k 0).testBit j || commD pf (is.getD j default) (is.getD k default)

/-- where a call is asked of loads behind it -/
def warAll (is : List AInstr) (m : Nat) : Bool :=
  !is.any isCallc || (List.range m).all fun k => (!isCallc (is.getD k default) || (is.getD k default).guard == none) && (List.range k).all fun j => warB (is.getD j default) (is.getD k default)

def chkDraw (C : Cx) (pf : Nat → Bool) (n : Nat) (L : List Nat) (ops : Array Oper) (is : List AInstr) : Bool :=
  C.P.follows .mixedOrders && chkOnes C n L ops ops.toList is && backB 0 ops.toList && pairsB pf is (masks ops.toList []) ops.size && warAll is ops.size

theorem maskOf_spec {acc : List Nat} {o : Oper} {j : Nat} (h : (maskOf acc o).testBit j = true) : ∃ e ∈ o.after, Region.binds .any e = true ∧ (e.on = j ∨ (acc.getD e.on 0).testBit j = true) := by
  unfold maskOf at h
  have key : ∀ l : List Edge, (l.foldr (fun e m => if Region.binds .any e then (m ||| 2 ^ e.on) ||| acc.getD e.on 0 else m) 0).testBit j = true → ∃ e ∈ l, Region.binds .any e = true ∧ (e.on = j ∨ (acc.getD e.on 0).testBit j = true) := by
    intro l
    induction l with
    | nil => intro h; simp at h
    | cons e l ih =>
      intro h
      simp only [List.foldr_cons] at h
      by_cases hb : Region.binds .any e = true
      · rw [if_pos hb, Nat.testBit_or, Nat.testBit_or] at h
        simp only [Bool.or_eq_true] at h
        rcases h with (h | h) | h
        · obtain ⟨e', h1, h2⟩ := ih h
          exact ⟨e', List.mem_cons_of_mem _ h1, h2⟩
        · refine ⟨e, List.mem_cons_self, hb, .inl ?_⟩
          simpa [Nat.testBit_two_pow] using h
        · exact ⟨e, List.mem_cons_self, hb, .inr h⟩
      · rw [if_neg hb] at h
        obtain ⟨e', h1, h2⟩ := ih h
        exact ⟨e', List.mem_cons_of_mem _ h1, h2⟩
  obtain ⟨e, h1, h2⟩ := key _ h
  exact ⟨e, by simpa using h1, h2⟩

section
variable {ops : Array Oper} {listed : Array Bool}

def ClosedT (ops : Array Oper) (listed : Array Bool) : Prop :=
  ∀ (j : Nat) (oj : Oper), ops[j]? = some oj → listed.getD j false = true → ∀ e ∈ oj.after, Region.binds .any e = true → listed.getD e.on false = true

theorem ClosedT.set {i : Nat} (h : ClosedT ops listed) (hi : i ∈ Region.ready .any ops listed) : ClosedT ops (listed.setIfInBounds i true) := by
  obtain ⟨_, oi, hoi, hall⟩ := mem_ready.1 hi
  intro j oj hj hl e he hb
  by_cases hij : i = j
  · subst hij
    have : oj = oi := Option.some.inj (hj.symm.trans hoi)
    subst this
    exact getD_set_true (hall e he hb)
  · rw [getD_set_ne false hij] at hl
    exact getD_set_true (h j oj hj hl e he hb)

/-- bits tell what is listed ahead -/
def GoodM (ops : Array Oper) (listed : Array Bool) (acc : List Nat) : Prop :=
  ∀ (k : Nat) (ok : Oper), k < acc.length → ops[k]? = some ok → (∀ e ∈ ok.after, Region.binds .any e = true → listed.getD e.on false = true) → ∀ j, (acc.getD k 0).testBit j = true → listed.getD j false = true

theorem goodM_masks (hc : ClosedT ops listed) : ∀ {os : List Oper} {acc : List Nat}, (∀ j, os[j]? = ops[acc.length + j]?) → GoodM ops listed acc → GoodM ops listed (masks os acc)
  | [], acc, _, hg => hg
  | o :: os, acc, hl, hg => by
    have h0 : ops[acc.length]? = some o := by simpa using (hl 0).symm
    refine goodM_masks hc (os := os) (acc := acc ++ [maskOf acc o]) (fun j => ?_) ?_
    · have := hl (j + 1)
      simp only [List.getElem?_cons_succ] at this
      rw [this]
      simp [Nat.add_assoc, Nat.add_comm 1 j]
    · intro k ok hk hok hall j hj
      by_cases hka : k < acc.length
      · refine hg k ok hka hok hall j ?_
        simpa [List.getD_eq_getElem?_getD, List.getElem?_append_left hka] using hj
      · have hke : k = acc.length := by simp at hk; omega
        subst hke
        have : ok = o := Option.some.inj (hok.symm.trans h0)
        subst this
        have hj' : (maskOf acc ok).testBit j = true := by simpa [List.getD_eq_getElem?_getD] using hj
        obtain ⟨e, he, hb, hej⟩ := maskOf_spec hj'
        rcases hej with rfl | hej
        · exact hall e he hb
        · by_cases hea : e.on < acc.length
          · have hel := hall e he hb
            have hes : e.on < ops.size := by
              have := (Array.getElem?_eq_some_iff.1 h0).1
              omega
            exact hg e.on _ hea (Array.getElem?_eq_getElem hes) (hc e.on _ (Array.getElem?_eq_getElem hes) hel) j hej
          · have : acc.getD e.on 0 = 0 := by simp [List.getD_eq_getElem?_getD, List.getElem?_eq_none (Nat.le_of_not_lt hea)]
            rw [this] at hej
            simp at hej

/-- those that have not come up, in the listed order -/
def rest (m : Nat) (listed : Array Bool) : List Nat := (List.range m).filter fun j => !listed.getD j true

theorem rest_split {m i : Nat} (hi : i < m) (hl : listed.getD i true = false) : ∃ l1 l2, rest m listed = l1 ++ i :: l2 ∧ (∀ j ∈ l1, j < i ∧ listed.getD j true = false) ∧ rest m (listed.setIfInBounds i true) = l1 ++ l2 := by
  have hsz : i < listed.size := by
    rcases Nat.lt_or_ge i listed.size with h | h
    · exact h
    · simp [Array.getElem?_eq_none h] at hl
  have hr : List.range m = List.range i ++ i :: (List.range (m - (i + 1))).map (· + (i + 1)) := by
    have h1 : m = i + (m - i) := by omega
    rw [h1, List.range_add]
    have h2 : i + (m - i) - (i + 1) = m - i - 1 := by omega
    have h3 : m - i = (m - i - 1) + 1 := by omega
    rw [h2]
    conv => lhs; rw [h3, List.range_succ_eq_map]
    simp only [List.map_cons, List.map_map, Nat.add_zero]
    congr 2
    refine List.map_congr_left fun x _ => ?_
    simp only [Function.comp]
    omega
  refine ⟨(List.range i).filter (fun j => !listed.getD j true), ((List.range (m - (i + 1))).map (· + (i + 1))).filter (fun j => !listed.getD j true), ?_, fun j hj => ?_, ?_⟩
  · unfold rest
    rw [hr, List.filter_append, List.filter_cons]
    simp [hl]
  · simp only [List.mem_filter, List.mem_range, Bool.not_eq_true'] at hj
    exact hj
  · unfold rest
    rw [hr, List.filter_append, List.filter_cons]
    have hset : (listed.setIfInBounds i true).getD i true = true := by simp [hsz]
    rw [hset]
    simp only [Bool.not_true, Bool.false_eq_true, if_false]
    congr 1
    · refine List.filter_congr fun j hj => ?_
      rw [getD_set_ne true]
      have := List.mem_range.1 hj
      omega
    · refine List.filter_congr fun j hj => ?_
      obtain ⟨x, _, rfl⟩ := List.mem_map.1 hj
      rw [getD_set_ne true]
      omega
end
end Ey
