/- Stores. -/
import Derived.Test.YtjcnpcdcpfbpdaaGreatDoorEyOp11
namespace Ey
open Go Go.RowKit

section
variable {C : Cx} {g : Gh} {own : Own} {B : Nat} {H : Heap} {w : World} {env : Env} {a : Act} {n : Nat} {L : List Nat}

/-- only the block that is named changes, by a write into its own cells -/
theorem chg_wr (hS : St C g own B H w) {w' : World} {b o id : Nat} {vs : List Value} (hW : Wr w w' b o vs) (how : ∀ j, j < vs.length → own b (o + j) = .heap id) (hlt : id < H.next) (hro : H.ro ≤ id)
    {g' : Gh} (hle : g.Le g') (hG : g'.G = g.G) (hob : g'.ob = g.ob) (har : ∀ i, i ≠ id → ∀ n, g'.ar i n = g.ar i n) {bl' : Option Blk} (hn : ∀ bl, bl' = some bl → BlkR C g' own w' id bl) (hbel : Below B w w') :
    Chg C g own B H w g' own (H.put id bl') w' id where
  le := hle
  keep := fun b' o' h1 h2 => ⟨rfl, own_out h2 rfl hW how, hW.frozen _⟩
  maps := fun b' es c _ _ h => hW.maps _ _ _ h
  G := fun b' o' v h => by
    rw [hG] at h
    obtain ⟨h1, h2⟩ := hS.imm b' o' v h
    exact ⟨h1, by rw [own_out (by simp) h1 hW how]; exact h2⟩
  ob := fun _ _ => by rw [hob]
  ob0 := fun _ => by rw [hob]
  ar := har
  get := fun i hi => by simp [Heap.put, hi]
  new := fun bl h => hn bl (by simpa [Heap.put] using h)
  ro := rfl
  next := Nat.le_refl _
  lt := hlt
  ge := hro
  ext := fun b' o' => by rw [hW.size]; exact hS.ext b' o'
  base := hS.base
  below := hbel

theorem get_lt (hS : St C g own B H w) {id : Nat} {bl : Blk} (h : H.get id = some bl) : id < H.next := by
  rcases Nat.lt_or_ge id H.next with h1 | h1
  · exact h1
  · rw [(hS.next id h1).1] at h; cases h

theorem cells_one_all {x : AV} {v : Value} (h : VR C g x v) (hl : x.cells ≠ []) : ∀ u ∈ v.cells.toList, u.oneCell' = true := by
  have hc := VR.cells h (.inl hl)
  intro u hu
  obtain ⟨j, hj, rfl⟩ := List.mem_iff_getElem.1 hu
  have hj' : j < x.cells.length := by rw [hc.len]; exact hj
  exact (hc.rel j _ _ (List.getElem?_eq_getElem hj') (List.getElem?_eq_getElem hj)).oneCell (hc.one _ (List.getElem_mem hj'))

theorem putElem_cells {x : AV} {off : Nat} {new : List AV} (h0 : 0 < new.length) (hle : off + new.length ≤ x.cells.length) (h1 : ∀ c ∈ new, c.one = true) : (putElem x off new).cells = putAt x.cells off new := by
  unfold putElem
  split
  · rename_i h
    obtain ⟨h2, rfl⟩ := h
    have hp : putAt x.cells 0 new = new := by simp [putAt, h2]
    rw [hp]
    split
    · rfl
    · rename_i hx
      have hl : x.cells.length = 1 := by
        cases x <;> first | rfl | (simp only [AV.cells, List.length_nil] at hle; omega) | exact absurd rfl (hx _)
      match new, h2.symm.trans hl with
      | [c], _ => simp [AV.one_cells (h1 c (by simp))]
  · rfl

theorem st_done (hS : St C g own B H w) (hF : Fr C g own w env a.tmps n L) {t : TypeId} {sz : Nat} (hsz : (Go.sizeOf t).run C.P w = .ok sz w) (h0 : 0 < sz) {x y : Operand} {x' y' : Opd} (hx : opdOK C x x' = true) (hy : opdOK C y y' = true)
    {z : AV} (hz : env.av y' = some z) (hl : z.cells.length = sz) {e' : Env} {H' : Heap} (hst : stS env H z.cells (env.sl x') = some (e', H')) :
    ∃ r, (do Instr.storeAt t (a.eval x) (a.eval y); pure Next.skip : Sem Next).run C.P w = r ∧ Done C g own B H w a n L none e' H' r := by
  have hv := av_rel hF hy hz
  have hs := sl_rel hF hx rfl (s := env.sl x') (by intro h; rw [h] at hst; simp [stS] at hst)
  generalize a.eval x = vx at hs ⊢
  generalize a.eval y = vy at hv ⊢
  have hne : z.cells ≠ [] := by intro e; rw [e] at hl; simp at hl; omega
  have hcr := VR.cells hv (.inl hne)
  have hone := cells_one_all hv hne
  have hvl : vy.cells.size = sz := by have := hcr.len; simp at this; omega
  have hvl' : vy.cells.toList.length = sz := by simpa using hvl
  have go : ∀ b o, vx = .pointer (some ⟨b, o, none⟩) → (storeVar t ⟨b, o, none⟩ vy).run C.P w = .ok () (w.setCells b o vy.cells.toList) →
      (do Instr.storeAt t vx vy; pure Next.skip : Sem Next).run C.P w = .ok .skip (w.setCells b o vy.cells.toList) := by
    intro b o h1 h2
    subst h1
    simp [Instr.storeAt, Instr.sureAddr, h2]
  refine ⟨_, rfl, ?_⟩
  unfold stS at hst
  split at hst
  · rename_i s off hq
    rw [hq] at hs
    obtain ⟨cs, b, o, h1, h2, h3⟩ := hs
    simp only [h1] at hst
    split at hst
    · rename_i hle
      simp only [Option.some.injEq, Prod.mk.injEq] at hst
      obtain ⟨rfl, rfl⟩ := hst
      have h4 := hF.slots s
      simp only [SlotOK, h1] at h4
      obtain ⟨b', o', h5, h6⟩ := h4
      rw [h5] at h2; simp at h2; obtain ⟨rfl, rfl⟩ := h2
      have hcell : ∀ j, j < sz → own b' (o' + off + j) = .slot s ∧ ∃ u, w.cell? ⟨b', o' + off + j, none⟩ = some u ∧ w.frozen? ⟨b', o' + off + j, none⟩ = false := fun j hj => by
        have hjl : off + j < cs.length := by omega
        obtain ⟨k1, u, k2, k3, _⟩ := h6.2 (off + j) _ (List.getElem?_eq_getElem hjl)
        rw [← Nat.add_assoc] at k1 k2 k3
        exact ⟨k1, u, k2, k3⟩
      obtain ⟨hrun, hW⟩ := run_storeVar_at hsz (b := b') (o := o' + off) hvl hone (fun j hj => (hcell j hj).2)
      rw [go _ _ h3 hrun]
      have how : ∀ j, j < vy.cells.toList.length → own b' (o' + off + j) = .slot s := fun j hj => (hcell j (by omega)).1
      have hB : B ≤ b' := hS.base b' (o' + off + 0) ⟨s, .inr (hcell 0 h0).1⟩
      refine ⟨g, own, _, undef, .inr ⟨rfl, rfl⟩, ?_, hS.wr_slot hW how, ?_⟩
      · refine ⟨.refl g, fun _ _ => rfl, fun _ _ _ => rfl, fun _ _ => rfl, rfl, Nat.le_refl _, fun b o hb => ⟨hb, own_out (by simp) hb hW how, hW.frozen _⟩, hW.below B hB⟩
      · rw [put_tmps]
        have hget : ∀ q, Env.get ((s, Sl.lv (putAt cs off z.cells)) :: env) q = if q = s then .lv (putAt cs off z.cells) else env.get q := fun q => rfl
        refine ⟨hF.size, fun q => ?_, fun q cs' hq' => ?_, hF.gl⟩
        · simp only [SlotOK, hget]
          by_cases hqs : q = s
          · subst hqs
            rw [if_pos rfl]
            exact ⟨b', o', h5, cells_wr h6 (by omega) hcr hW⟩
          · rw [if_neg hqs]
            have h := hF.slots q
            simp only [SlotOK] at h
            cases he : env.get q with
            | no => trivial
            | un => rw [he] at h; exact h
            | v y => rw [he] at h; exact h
            | lv cs' =>
              rw [he] at h
              obtain ⟨b2, o2, k1, k2⟩ := h
              exact ⟨b2, o2, k1, cells_out (by simpa using hqs) k2 hW how⟩
            | lp s' off' =>
              rw [he] at h
              obtain ⟨cs', b2, o2, k1, k2, k3⟩ := h
              by_cases hss : s' = s
              · subst hss
                exact ⟨_, b2, o2, if_pos rfl, k2, k3⟩
              · exact ⟨cs', b2, o2, (if_neg hss).trans k1, k2, k3⟩
        · rw [hget] at hq'
          by_cases hqs : q = s
          · subst hqs; exact hF.lvs _ _ h1
          · rw [if_neg hqs] at hq'; exact hF.lvs q cs' hq'
    · simp at hst
  · rename_i id off hq
    rw [hq] at hs
    split at hst
    · simp at hst
    · rename_i hro
      split at hst
      · rename_i cs hg
        split at hst
        · rename_i hle
          simp only [Option.some.injEq, Prod.mk.injEq] at hst
          obtain ⟨rfl, rfl⟩ := hst
          cases hs with
          | ptr _ _ b o hb =>
            obtain ⟨b', o', h1, h6⟩ := hS.obj _ _ hg
            rw [hb] at h1; simp at h1; obtain ⟨rfl, rfl⟩ := h1
            have hcell : ∀ j, j < sz → own b (o + off + j) = .heap id ∧ ∃ u, w.cell? ⟨b, o + off + j, none⟩ = some u ∧ w.frozen? ⟨b, o + off + j, none⟩ = false := fun j hj => by
              have hjl : off + j < cs.length := by omega
              obtain ⟨k1, u, k2, k3, _⟩ := h6.2 (off + j) _ (List.getElem?_eq_getElem hjl)
              rw [← Nat.add_assoc] at k1 k2 k3
              exact ⟨k1, u, k2, k3⟩
            obtain ⟨hrun, hW⟩ := run_storeVar_at hsz (b := b) (o := o + off) hvl hone (fun j hj => (hcell j hj).2)
            rw [go _ _ rfl hrun]
            have how : ∀ j, j < vy.cells.toList.length → own b (o + off + j) = .heap id := fun j hj => (hcell j (by omega)).1
            have hB : B ≤ b := hS.base b (o + off + 0) ⟨id, .inl (hcell 0 h0).1⟩
            have hchg := chg_wr hS hW how (get_lt hS hg) (by omega) (.refl g) rfl rfl (fun _ _ _ => rfl) (bl' := some (.obj (putAt cs off z.cells))) (fun bl h => by
              simp only [Option.some.injEq] at h; subst h
              exact ⟨b, o, hb, cells_wr h6 (by omega) hcr hW⟩) (hW.below B hB)
            exact ⟨g, own, _, undef, .inr ⟨rfl, rfl⟩, hchg.toExt, hchg.st hS, hchg.fr hF⟩
        · simp at hst
      · simp at hst
  · rename_i id ver i off hq
    rw [hq] at hs
    split at hst
    · simp at hst
    · rename_i hro
      split at hst
      · rename_i nl zz xs hg
        split at hst
        · rename_i hver
          split at hst
          · rename_i x0 hx0
            split at hst
            · rename_i hle
              simp only [Option.some.injEq, Prod.mk.injEq] at hst
              obtain ⟨rfl, rfl⟩ := hst
              cases hs with
              | ap _ _ _ _ b o cap sz' hb =>
                obtain ⟨⟨ph, h1, h2, h3⟩, h4⟩ := hS.arr _ _ _ _ hg
                subst hver
                rw [hb] at h1; simp at h1; subst h1
                simp only at h2 h3
                subst h2
                obtain ⟨k1, k2, k3, k4, k5⟩ := h3
                have hi := (List.getElem?_eq_some_iff.1 hx0).1
                have hx0l := (k3 i x0 hx0).1
                have hcell : ∀ j, j < sz → own b (o + i * sz' + off + j) = .heap id ∧ ∃ u, w.cell? ⟨b, o + i * sz' + off + j, none⟩ = some u ∧ w.frozen? ⟨b, o + i * sz' + off + j, none⟩ = false := fun j hj => by
                  have hk : i * sz' + (off + j) < cap * sz' := idx_lt hi k2 (by omega)
                  obtain ⟨m1, u, m2, m3, _⟩ := k4 _ hk
                  rw [show o + (i * sz' + (off + j)) = o + i * sz' + off + j by omega] at m1 m2 m3
                  exact ⟨m1, u, m2, m3⟩
                obtain ⟨hrun, hW⟩ := run_storeVar_at hsz (b := b) (o := o + i * sz' + off) hvl hone (fun j hj => (hcell j hj).2)
                rw [go _ _ rfl hrun]
                have how : ∀ j, j < vy.cells.toList.length → own b (o + i * sz' + off + j) = .heap id := fun j hj => (hcell j (by omega)).1
                have hB : B ≤ b := hS.base b (o + i * sz' + off + 0) ⟨id, .inl (hcell 0 h0).1⟩
                have hpc := putElem_cells (x := x0) (off := off) (new := z.cells) (by omega) hle hcr.one
                have hnewget : ∀ (q : Nat) (x : AV), (xs.set i (putElem x0 off z.cells))[q]? = some x → (q = i ∧ x = putElem x0 off z.cells) ∨ (q ≠ i ∧ xs[q]? = some x) := fun q x hq => by
                  rw [List.getElem?_set] at hq
                  split at hq
                  · rename_i he
                    simp at hq
                    exact .inl ⟨he.symm, hq.symm⟩
                  · rename_i he
                    exact .inr ⟨fun e => he e.symm, hq⟩
                have hchg := chg_wr hS hW how (get_lt hS hg) (by omega) (.refl g) rfl rfl (fun _ _ _ => rfl) (bl' := some (.arr nl sz' (xs.set i (putElem x0 off z.cells)))) (fun bl h => by
                  simp only [Option.some.injEq] at h; subst h
                  refine ⟨⟨⟨some (b, o), cap, sz'⟩, by simpa using hb, rfl, k1, by simpa using k2, fun q x hq => ?_, fun k hk => ?_, fun q x j y hq hy => ?_⟩, by simpa using h4⟩
                  · rcases hnewget q x hq with ⟨_, rfl⟩ | ⟨_, hq'⟩
                    · rw [hpc]
                      refine ⟨by simp [putAt]; omega, fun c hc => (putAt_mem hc).elim ((k3 i x0 hx0).2 c) (hcr.one c)⟩
                    · exact k3 q x hq'
                  · obtain ⟨m1, u, m2, m3, m4⟩ := k4 k hk
                    by_cases hin : o + i * sz' + off ≤ o + k ∧ o + k < o + i * sz' + off + vy.cells.toList.length
                    · have hjv : o + k - (o + i * sz' + off) < vy.cells.toList.length := by omega
                      have := hW.inn _ _ (List.getElem?_eq_getElem hjv)
                      rw [show o + i * sz' + off + (o + k - (o + i * sz' + off)) = o + k by omega] at this
                      exact ⟨m1, _, this, by rw [hW.frozen]; exact m3, trivial⟩
                    · exact ⟨m1, u, by rw [hW.out b (o + k) (by rintro ⟨_, p1, p2⟩; exact hin ⟨p1, p2⟩)]; exact m2, by rw [hW.frozen]; exact m3, m4⟩
                  · rcases hnewget q x hq with ⟨rfl, rfl⟩ | ⟨hne', hq'⟩
                    · rw [hpc, putAt_get hle] at hy
                      split at hy
                      · rename_i hin
                        have hjv : j - off < vy.cells.toList.length := by omega
                        have := hW.inn _ _ (List.getElem?_eq_getElem hjv)
                        rw [show o + q * sz' + off + (j - off) = o + q * sz' + j by omega] at this
                        exact ⟨_, this, hcr.rel _ y _ hy (List.getElem?_eq_getElem hjv)⟩
                      · rename_i hin
                        obtain ⟨v, p1, p2⟩ := k5 q x0 j y hx0 hy
                        exact ⟨v, by rw [hW.out b (o + q * sz' + j) (by rintro ⟨_, p3, p4⟩; omega)]; exact p1, p2⟩
                    · obtain ⟨v, p1, p2⟩ := k5 q x j y hq' hy
                      have hj : j < sz' := by
                        have := (List.getElem?_eq_some_iff.1 hy).1
                        have := (k3 q x hq').1
                        omega
                      refine ⟨v, ?_, p2⟩
                      rw [hW.out b (o + q * sz' + j) ?_]
                      · exact p1
                      · rintro ⟨_, p3, p4⟩
                        rcases Nat.lt_or_gt_of_ne hne' with h | h
                        · have : (q + 1) * sz' ≤ i * sz' := Nat.mul_le_mul_right _ (by omega)
                          rw [Nat.add_mul] at this
                          omega
                        · have : (i + 1) * sz' ≤ q * sz' := Nat.mul_le_mul_right _ (by omega)
                          rw [Nat.add_mul] at this
                          omega) (hW.below B hB)
                exact ⟨g, own, _, undef, .inr ⟨rfl, rfl⟩, hchg.toExt, hchg.st hS, hchg.fr hF⟩
            · simp at hst
          · simp at hst
        · simp at hst
      · simp at hst
  · simp at hst
end
end Ey
