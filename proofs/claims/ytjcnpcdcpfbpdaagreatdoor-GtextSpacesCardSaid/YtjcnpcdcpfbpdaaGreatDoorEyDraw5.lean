/- A region whose order does not matter, whole. -/
import Derived.Test.YtjcnpcdcpfbpdaaGreatDoorEyDraw4
namespace Ey
open Go Go.RowKit

theorem backB_get : ∀ {os : List Oper} {k : Nat}, backB k os = true → ∀ (j : Nat) (o : Oper), os[j]? = some o → ∀ e ∈ o.after, Region.binds .any e = true → e.on < k + j
  | [], _, _, j, o, h => by simp at h
  | o :: os, k, hb, j, o', h => by
    simp only [backB, Bool.and_eq_true] at hb
    intro e he hbi
    cases j with
    | zero =>
      simp at h
      subst h
      have := List.all_eq_true.1 hb.1 e (by simpa using he)
      simpa [hbi] using this
    | succ j =>
      simp at h
      have := backB_get hb.2 j o' h e he hbi
      omega

theorem chkOnes_get {C : Cx} {n : Nat} {L : List Nat} {ops : Array Oper} : ∀ {os : List Oper} {is : List AInstr}, chkOnes C n L ops os is = true → os.length = is.length ∧ ∀ (j : Nat) (o : Oper) (i : AInstr), os[j]? = some o → is[j]? = some i → chkOne C n L ops o i = true
  | [], [], _ => ⟨rfl, fun j o i h => by simp at h⟩
  | [], _ :: _, h => by simp [chkOnes] at h
  | _ :: _, [], h => by simp [chkOnes] at h
  | o :: os, i :: is, h => by
    simp only [chkOnes, Bool.and_eq_true] at h
    obtain ⟨k1, k2⟩ := chkOnes_get h.2
    refine ⟨by simp [k1], fun j o' i' ho hi => ?_⟩
    cases j with
    | zero => simp at ho hi; exact ho ▸ hi ▸ h.1
    | succ j => simp at ho hi; exact k2 j o' i' ho hi

section
variable {C : Cx} {g0 g : Gh} {own0 own : Own} {B : Nat} {H0 H : Heap} {w0 w : World} {env : Env} {a : Act} {n : Nat} {L : List Nat}

theorem fr_off {tmps : Array Value} {e e' : Env} (hF : Fr C g own w e tmps n L) (h : Off none e e') : Fr C g own w e' tmps n L where
  size := hF.size
  gl := hF.gl
  slots := fun s => by
    have := hF.slots s
    simp only [SlotOK, ← h.eq _ (by simp : none ≠ some _)] at this ⊢
    exact this
  lvs := fun s cs hs => hF.lvs s cs (by rw [h.eq s (by simp)]; exact hs)

theorem chkOne_bare {ops : Array Oper} {o : Oper} {i : AInstr} (h : chkOne C n L ops o i = true) : chkOne C n L ops o i.bare = true := by
  unfold AInstr.bare
  split
  · rename_i f xs cs hop
    simp only [chkOne, Bool.and_eq_true] at h ⊢
    obtain ⟨⟨⟨h1, h2⟩, h3⟩, h4⟩ := h
    refine ⟨⟨⟨h1, h2⟩, ?_⟩, ?_⟩
    · rw [hop] at h3
      unfold chkSt at h3 ⊢
      split at h3 <;> first | (rename_i heq; cases heq; done) | skip
      all_goals first
        | (exfalso
           simp only [Bool.and_eq_true] at h3
           have hpv := chkPure_pv h3.2
           cases hpv
           done)
        | simp_all
    · simp only [okOne, okLB, hop, Bool.and_eq_true] at h4 ⊢
      exact h4
  · exact h

/-- one operation of such a region -/
theorem stp_wp (hfun : FunsOK C) {cl : Caller} (hcl : CallsOK C cl) {ops : Array Oper} {k : Nat} {o : Oper} {i : AInstr} (ho : ops[k]? = some o) (hc : chkOne C n L ops o i = true) (hS : St C g own B H w) (hF : Fr C g own w env a.tmps n L) {e1 : Env} {H1 : Heap}
    (hs : stp cl i env H = some (e1, H1)) {K : Act → World → Prop} {Q : Exit → Act → World → Prop} (hK : ∀ g' own' w' a', Ext g own B H w g' own' H1 w' → St C g' own' B H1 w' → Fr C g' own' w' e1 a'.tmps n L → a'.defers = a.defers → K a' w') :
    wpOp C.P ops Q k K a w := by
  simp only [chkOne, Bool.and_eq_true, beq_iff_eq] at hc
  obtain ⟨⟨⟨h1, h2⟩, h3⟩, _⟩ := hc
  unfold wpOp
  simp only [ho]
  unfold stp at hs
  cases hw : wantedS env i.guard with
  | none => rw [hw] at hs; cases hs
  | some b =>
    rw [hw] at hs
    obtain ⟨k1, k2⟩ := guard_sim hF h2 hw
    rw [k1]
    cases b with
    | false =>
      simp only [Option.some.injEq, Prod.mk.injEq] at hs
      obtain ⟨rfl, rfl⟩ := hs
      simp only [Bool.false_eq_true, if_false]
      refine hK g own w _ (Ext.refl _ _ _ _ _) hS ?_ (put_defers _ _)
      rw [h1]
      exact hF.put (dstOKb_is (k2 rfl)) (x := .un) rfl rfl
    | true =>
      simp only [if_true]
      simp only at hs
      cases hx : opS cl i.dst env H i.op with
      | none => rw [hx] at hs; cases hs
      | some out =>
        rw [hx] at hs
        cases out with
        | pan v e2 H2 => cases hs
        | go q e2 H2 =>
          simp only [Option.some.injEq, Prod.mk.injEq] at hs
          obtain ⟨rfl, rfl⟩ := hs
          refine .inl (op_sim hfun hS hF hcl h1 h3 hx ⟨fun x e' H' he g' own' w' a' hE' hS' hF' hd' => ?_, fun v e' H' he => by cases he⟩)
          simp only [Out.go.injEq] at he
          obtain ⟨_, rfl, rfl⟩ := he
          exact hK g' own' w' a' hE' hS' hF' hd'

theorem draw_any (hfun : FunsOK C) {cl : Caller} (hcl : CallsOK C cl) {pf : Nat → Bool} (hp : PureC pf cl) {ops : Array Oper} {is : List AInstr} (hon : chkOnes C n L ops ops.toList is = true) (hback : backB 0 ops.toList = true)
    (hpairs : pairsB pf is (masks ops.toList []) ops.size = true) (hwar : warAll is ops.size = true) {df : List Deferred} {efix : Env} {Hf : Heap} : ∀ (fuel : Nat) {listed : Array Bool} {g : Gh} {own : Own} {H : Heap} {w : World} {env : Env} {a : Act} {ef : Env},
    ClosedT ops listed → (rest ops.size listed).length ≤ fuel → runS cl ((rest ops.size listed).map fun j => is.getD j default) env H = some (ef, Hf) → Off none ef efix →
    Ext g0 own0 B H0 w0 g own H w → St C g own B H w → Fr C g own w env a.tmps n L → a.defers = df →
    wpAny C.P .any ops (OutR C g0 own0 B H0 w0 n L df (.go .nrm efix Hf)) fuel listed a w := by
  obtain ⟨hlen, hget⟩ := chkOnes_get hon
  have hlen' : is.length = ops.size := by simpa using hlen.symm
  have hone : ∀ j o, ops[j]? = some o → chkOne C n L ops o (is.getD j default) = true := fun j o ho => by
    have hj : j < is.length := by rw [hlen']; exact (Array.getElem?_eq_some_iff.1 ho).1
    exact hget j o _ (by simpa using ho) (by simp [List.getD_eq_getElem?_getD, hj])
  have hok : ∀ j, j < ops.size → okOne L (is.getD j default) = true := fun j hj => by
    have := hone j _ (Array.getElem?_eq_getElem hj)
    simp only [chkOne, Bool.and_eq_true] at this
    exact this.2
  intro fuel
  induction fuel with
  | zero =>
    intro listed g own H w env a ef hcl' hf hrun hoff hE hS hF hdf
    have hnil : rest ops.size listed = [] := List.length_eq_zero_iff.1 (by omega)
    rw [hnil] at hrun
    simp only [List.map_nil, runS, Option.some.injEq, Prod.mk.injEq] at hrun
    obtain ⟨rfl, rfl⟩ := hrun
    refine ⟨?_, rfl, hdf, g, own, hE, hS, fr_off hF hoff⟩
    by_cases hr : Region.ready .any ops listed = []
    · exact hr
    · obtain ⟨i, hi⟩ := List.exists_mem_of_ne_nil _ hr
      obtain ⟨hun, oi, hoi, _⟩ := mem_ready.1 hi
      have hlt : i < ops.size := (Array.getElem?_eq_some_iff.1 hoi).1
      have : i ∈ rest ops.size listed := by
        unfold rest
        rw [List.mem_filter, List.mem_range]
        exact ⟨hlt, by rw [hun]; rfl⟩
      rw [hnil] at this
      cases this
  | succ fuel ih =>
    intro listed g own H w env a ef hcl' hf hrun hoff hE hS hF hdf
    refine ⟨fun hr => ?_, fun i hi => ?_⟩
    · have hnil : rest ops.size listed = [] := by
        cases hrest : rest ops.size listed with
        | nil => rfl
        | cons k r =>
          exfalso
          have hk : k ∈ rest ops.size listed := by rw [hrest]; simp
          unfold rest at hk
          rw [List.mem_filter, List.mem_range] at hk
          have hmin : ∀ j, j < k → listed.getD j true = true := fun j hj => by
            by_cases hlj : listed.getD j true = true
            · exact hlj
            · exfalso
              obtain ⟨l1, l2, hs1, hs2, _⟩ := rest_split (m := ops.size) (i := j) (listed := listed) (by omega) (by simpa using hlj)
              rw [hrest] at hs1
              cases l1 with
              | nil =>
                simp only [List.nil_append, List.cons.injEq] at hs1
                omega
              | cons x l1 =>
                simp only [List.cons_append, List.cons.injEq] at hs1
                have := (hs2 x (by simp)).1
                omega
          have : k ∈ Region.ready .any ops listed := by
            refine mem_ready.2 ⟨by simpa using hk.2, _, Array.getElem?_eq_getElem hk.1, fun e he hb => ?_⟩
            have hlt := backB_get hback k _ (by simp [hk.1]) e he hb
            have h1 := hmin e.on (by omega)
            have hun : listed.getD k true = false := by simpa using hk.2
            have hks : k < listed.size := by
              rcases Nat.lt_or_ge k listed.size with h | h
              · exact h
              · simp [Array.getElem?_eq_none h] at hun
            have hes : e.on < listed.size := by omega
            simp [hes] at h1 ⊢
            exact h1
          rw [hr] at this
          cases this
      rw [hnil] at hrun
      simp only [List.map_nil, runS, Option.some.injEq, Prod.mk.injEq] at hrun
      obtain ⟨rfl, rfl⟩ := hrun
      exact ⟨rfl, hdf, g, own, hE, hS, fr_off hF hoff⟩
    · obtain ⟨hun, oi, hoi, hall⟩ := mem_ready.1 hi
      have hlt : i < ops.size := (Array.getElem?_eq_some_iff.1 hoi).1
      obtain ⟨l1, l2, hs1, hs2, hs3⟩ := rest_split (m := ops.size) hlt hun
      have hgood : GoodM ops listed (masks ops.toList []) := goodM_masks hcl' (by simp) (fun k ok hk => by simp at hk)
      have hcomm : ∀ j ∈ l1, commD pf (is.getD j default) (is.getD i default) = true := fun j hj => by
        obtain ⟨hji, hju⟩ := hs2 j hj
        have h1 := List.all_eq_true.1 (List.all_eq_true.1 hpairs i (List.mem_range.2 hlt)) j (List.mem_range.2 hji)
        simp only [Bool.or_eq_true] at h1
        rcases h1 with h1 | h1
        · exfalso
          by_cases hml : i < (masks ops.toList []).length
          · have h2 := hgood i oi hml hoi hall j h1
            have hjs : j < listed.size := by
              rcases Nat.lt_or_ge j listed.size with h | h
              · exact h
              · simp [Array.getElem?_eq_none h] at hju
            simp [hjs] at h2 hju
            rw [h2] at hju
            cases hju
          · rw [List.getD_eq_getElem?_getD, List.getElem?_eq_none (Nat.le_of_not_lt hml)] at h1
            simp at h1
        · exact h1
      rw [hs1, List.map_append, List.map_cons] at hrun
      have hmem : ∀ x ∈ l1 ++ i :: l2, x < ops.size := fun x hx => by
        rw [← hs1] at hx
        unfold rest at hx
        exact List.mem_range.1 (List.mem_filter.1 hx).1
      obtain ⟨e1, H1, ef', k1, k2, k3⟩ := take_any hp (L := L) (i := is.getD i default) (fun s hs => by
          obtain ⟨cs, hcs⟩ := lv_of hs
          exact hF.lvs s cs hcs) (fun x hx => by
          rw [← List.map_cons (f := fun j => is.getD j default), ← List.map_append] at hx
          obtain ⟨y, hy, rfl⟩ := List.mem_map.1 hx
          exact hok y (hmem y hy)) (fun x hx => by
          obtain ⟨y, hy, rfl⟩ := List.mem_map.1 hx
          exact hcomm y hy) (fun hci => by
          have hil : i < is.length := by omega
          have hany : is.any isCallc = true := List.any_eq_true.2 ⟨is[i], List.getElem_mem hil, by simpa [List.getD_eq_getElem?_getD, hil] using hci⟩
          simp only [warAll, hany, Bool.not_true, Bool.false_or] at hwar
          have hall := fun k hk => List.all_eq_true.1 hwar k (List.mem_range.2 hk)
          refine ⟨?_, ?_⟩
          · have := hall i hlt
            simp only [Bool.and_eq_true, Bool.or_eq_true, Bool.not_eq_true', beq_iff_eq] at this
            rcases this.1 with h | h
            · rw [hci] at h; cases h
            · exact h
          · rw [List.pairwise_map]
            have hsub : l1.Sublist (List.range ops.size) := by
              have h1 : l1.Sublist (rest ops.size listed) := by rw [hs1]; exact List.sublist_append_left _ _
              exact h1.trans (by unfold rest; exact List.filter_sublist)
            have hlt2 := (List.pairwise_lt_range (n := ops.size)).sublist hsub
            refine (List.Pairwise.imp_of_mem (fun {a b} ha hb hab => ?_) hlt2)
            have hbm := List.mem_range.1 (hsub.subset hb)
            have := hall b hbm
            simp only [Bool.and_eq_true] at this
            exact List.all_eq_true.1 this.2 a (List.mem_range.2 hab)) hrun
      refine stp_wp hfun hcl hoi (chkOne_bare (hone i oi hoi)) hS hF k1 fun g' own' w' a' hE' hS' hF' hd' => ?_
      refine ih (hcl'.set hi) ?_ (by rw [hs3, List.map_append]; exact k2) ⟨fun s hs => (k3.eq s hs).symm.trans (hoff.eq s hs), fun s hs => by cases hs⟩ (hE.trans hE') hS' hF' (hd'.trans hdf)
      rw [hs3]
      rw [hs1] at hf
      simp only [List.length_append, List.length_cons] at hf ⊢
      omega

theorem draw_sim (hfun : FunsOK C) {cl : Caller} (hcl : CallsOK C cl) {pf : Nat → Bool} (hp : PureC pf cl) {id : Nat} {ops : Array Oper} {is : List AInstr} (hc : chkDraw C pf n L ops is = true) {df : List Deferred} {q : Ex} {ef : Env} {Hf : Heap}
    (hrun : opsS cl is env H = some (.go q ef Hf)) (hE : Ext g0 own0 B H0 w0 g own H w) (hS : St C g own B H w) (hF : Fr C g own w env a.tmps n L) (hdf : a.defers = df) :
    (Code.region id ops true).wp C.P (OutR C g0 own0 B H0 w0 n L df (.go .nrm ef Hf)) a w := by
  simp only [chkDraw, Bool.and_eq_true] at hc
  obtain ⟨⟨⟨⟨hm, hon⟩, hback⟩, hpairs⟩, hwar⟩ := hc
  have hlen : is.length = ops.size := by simpa using (chkOnes_get hon).1.symm
  have hrest : rest ops.size (Array.replicate ops.size false) = List.range ops.size := by
    unfold rest
    rw [List.filter_eq_self]
    intro j hj
    have := List.mem_range.1 hj
    simp [this]
  have hmap : (rest ops.size (Array.replicate ops.size false)).map (fun j => is.getD j default) = is := by
    rw [hrest, ← hlen]
    refine List.ext_getElem (by simp) fun j h1 h2 => ?_
    simp [List.getD_eq_getElem?_getD, h2]
  refine wp_region_any hm (draw_any hfun hcl hp hon hback hpairs hwar ops.size (ef := ef) (fun j oj _ hl => ?_) (by rw [hrest]; simp) (by rw [hmap]; exact runS_of_opsS hrun) (.refl _) (g := g) (own := own) (H := H) (env := env) ?_ ?_ ?_ hdf)
  · exfalso
    rcases Nat.lt_or_ge j ops.size with h | h <;> simp [h] at hl
  · exact ⟨hE.le, hE.ob, hE.ar, hE.get, hE.ro, hE.next, hE.fr, ⟨hE.below.os, hE.below.tape, hE.below.output, hE.below.size, hE.below.block⟩⟩
  · exact ⟨hS.imm, hS.obj, hS.arr, hS.mp, hS.next, hS.ext, hS.base, hS.size, hS.ro, hS.gl⟩
  · exact ⟨hF.size, hF.slots, hF.lvs, hF.gl⟩
end
end Ey
