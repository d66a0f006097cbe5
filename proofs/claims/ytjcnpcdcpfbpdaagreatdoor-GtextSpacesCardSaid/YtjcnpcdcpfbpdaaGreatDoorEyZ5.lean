/- The fast form: reads, addresses, slices. -/
import Derived.Test.YtjcnpcdcpfbpdaaGreatDoorEyZ4
namespace Ey
open Go (IntKind FloatKind BinOp UnOp)

section
variable {S : List Nat}
/-! ### reads -/
noncomputable def lvR (S : List Nat) (s : Nat) (e : E S) (d : FR) (f : V → FR) : FR := lvK' ((acc S s).run e) d f
theorem lvR_ok {q : Pr} {e : E S} {x : Env} (h : Rel S e x) {s : Nat} {d : FR} {f : V → FR} (hd : Agr d q) (hf : ∀ c, x.get s = .lv c.cl → Agr (f c) q) : Agr (lvR S s e d f) q := by
  refine lvK'_ok (P := fun r => Agr r q) (s := x.get s) ?_ hd hf
  rw [acc_eq]; exact h s
/-- through an address -/
noncomputable def ldZ (S : List Nat) (sz : Nat) (ag : Bool) (n : Nat) (v : V) (e : E S) (H : ZH) (κ : V → FR) : FR := adK n v .bad
  (fun s o => lvR S s e .bad fun c => paK sz ag c o .bad fun w => haK w κ)
  (fun y => ncK y .bad fun m => ifB (Nat.beq m sz) .bad (peK sz ag y 0 .bad fun w => haK w κ))
  (fun i o => obK i .bad (fun c => paK sz ag c o .bad fun w => haK w κ) H.bl)
  (fun i ver j o => arK i .bad (fun _ _ len c => ifB (Nat.beq len ver) .bad (nthC .bad (fun y => peK sz ag y o .bad fun w => haK w κ) c j)) H.bl)
theorem ldZ_ok {q : Pr} {e : E S} {x : Env} (h : Rel S e x) {H : ZH} (hH : H.ok) {sz : Nat} {ag : Bool} {n : Nat} {v : V} {s : Sl} (hv : v.dle n s) {κ : V → FR}
    (hk : ∀ w, ldS x H.heap sz ag s = some w.av → w.pv = some w.av → Agr (κ w) q) : Agr (ldZ S sz ag n v e H κ) q := by
  refine adK_ok (P := fun r => Agr r q) hv q.bad (fun t o hs => lvR_ok h q.bad fun c hc => paK_ok (P := fun r => Agr r q) q.bad fun w hw => haK_ok fun hp => hk w ?_ hp)
    (fun y hs => ncK_ok (P := fun r => Agr r q) q.bad fun hy => ?_)
    (fun i o hs => obK_ok (P := fun r => Agr r q) q.bad _ fun c hc => paK_ok (P := fun r => Agr r q) q.bad fun w hw => haK_ok fun hp => hk w ?_ hp)
    (fun i ver j o hs => arK_ok (P := fun r => Agr r q) q.bad _ hH fun nl z c hc => ?_)
  · rw [hs]; simp only [ldS, hc, hw]
  · rw [ifB_beq]
    split
    · rename_i hl
      refine peK_ok (P := fun r => Agr r q) q.bad fun w hy hw => haK_ok fun hp => hk w ?_ hp
      rw [hs]; simp only [ldS, hl, if_true, hw]
    · exact q.bad
  · rw [hs]
    have : H.heap.get i = some (.obj c.cl) := hc
    simp only [ldS, this, hw]
  · rw [ifB_beq]
    split
    · rename_i hl
      refine nthC_ok (P := fun r => Agr r q) q.bad c j fun y hy => peK_ok (P := fun r => Agr r q) q.bad fun w hyp hw => haK_ok fun hp => hk w ?_ hp
      rw [hs]
      have : H.heap.get i = some (.arr nl z c.cl) := hc
      simp only [ldS, this, hl, if_true, hy, hw]
    · exact q.bad
noncomputable def pLd (sz : Nat) (ag : Bool) (a : Opd) : Pv S := (fun e H κ => ldZ S sz ag (opn a) ((opd S a).run e) e H κ)
theorem pLd_ok (sz : Nat) (ag : Bool) (a : Opd) : PvOK (S := S) (.ld sz ag a) (pLd sz ag a) := fun e xe H κ q hH h hk => by
  refine ldZ_ok h hH (opd_dle h a) fun w hw hp => hk w (.v w.av) ?_ (pv_den hp)
  simp only [opv, hw, Option.map_some]
noncomputable def pLdl (sz : Nat) (ag : Bool) (s : Nat) : Pv S := (fun e _ κ => lvR S s e .bad fun c => paK sz ag c 0 .bad fun w => haK w κ)
theorem pLdl_ok (sz : Nat) (ag : Bool) (s : Nat) : PvOK (S := S) (.ldl sz ag s) (pLdl sz ag s) := fun e xe H κ q hH h hk => by
  refine lvR_ok h q.bad fun c hc => paK_ok (P := fun r => Agr r q) q.bad fun w hw => haK_ok fun hp => hk w (.v w.av) ?_ (pv_den hp)
  simp only [opv, hc, hw, Option.map_some]
noncomputable def pLdi (sz : Nat) (ag : Bool) (a : Opd) : Pv S := (fun e _ κ => adK (opn a) ((opd S a).run e) .bad (fun _ _ => .bad)
  (fun y => ncK y .bad fun m => ifB (Nat.beq m sz) .bad (peK sz ag y 0 .bad fun w => haK w κ)) (fun _ _ => .bad) (fun _ _ _ _ => .bad))
theorem pLdi_ok (sz : Nat) (ag : Bool) (a : Opd) : PvOK (S := S) (.ldi sz ag a) (pLdi sz ag a) := fun e xe H κ q hH h hk => by
  refine adK_ok (P := fun r => Agr r q) (opd_dle h a) q.bad (fun _ _ _ => q.bad) (fun y hs => ncK_ok (P := fun r => Agr r q) q.bad fun hy => ?_) (fun _ _ _ => q.bad) (fun _ _ _ _ _ => q.bad)
  rw [ifB_beq]
  split
  · rename_i hl
    refine peK_ok (P := fun r => Agr r q) q.bad fun w hy hw => haK_ok fun hp => hk w (.v w.av) ?_ (pv_den hp)
    simp only [opv, hs, hl, if_true, hw, Option.map_some]
  · exact q.bad
noncomputable def pLdp (sz : Nat) (ag : Bool) (a : Opd) : Pv S := (fun e _ κ => adK (opn a) ((opd S a).run e) .bad (fun s o => lvR S s e .bad fun c => paK sz ag c o .bad fun w => haK w κ) (fun _ => .bad) (fun _ _ => .bad) (fun _ _ _ _ => .bad))
theorem pLdp_ok (sz : Nat) (ag : Bool) (a : Opd) : PvOK (S := S) (.ldp sz ag a) (pLdp sz ag a) := fun e xe H κ q hH h hk => by
  show Agr (adK (opn a) ((opd S a).run e) .bad (fun s o => lvR S s e .bad fun c => paK sz ag c o .bad fun w => haK w κ) (fun _ => .bad) (fun _ _ => .bad) (fun _ _ _ _ => .bad)) q
  refine adK_ok (P := fun r => Agr r q) (opd_dle h a) q.bad (fun t o hs => lvR_ok h q.bad fun c hc => paK_ok (P := fun r => Agr r q) q.bad fun w hw => haK_ok fun hp => hk w (.v w.av) ?_ (pv_den hp)) (fun _ _ => q.bad) (fun _ _ _ => q.bad) (fun _ _ _ _ _ => q.bad)
  simp only [opv, hs, ldS, hc, hw, Option.map_some]
noncomputable def pLdo (sz : Nat) (ag : Bool) (a : Opd) : Pv S := (fun e H κ => adK (opn a) ((opd S a).run e) .bad (fun _ _ => .bad) (fun _ => .bad)
  (fun i o => ifB (Nat.ble (Nat.succ i) H.next) .bad (obK i .bad (fun c => paK sz ag c o .bad fun w => haK w κ) H.bl)) (fun _ _ _ _ => .bad))
theorem pLdo_ok (sz : Nat) (ag : Bool) (a : Opd) : PvOK (S := S) (.ldo sz ag a) (pLdo sz ag a) := fun e xe H κ q hH h hk => by
  refine adK_ok (P := fun r => Agr r q) (opd_dle h a) q.bad (fun _ _ _ => q.bad) (fun _ _ => q.bad) (fun i o hs => ?_) (fun _ _ _ _ _ => q.bad)
  rw [ifB_ble]
  split
  · rename_i hn
    refine obK_ok (P := fun r => Agr r q) q.bad _ fun c hc => paK_ok (P := fun r => Agr r q) q.bad fun w hw => haK_ok fun hp => hk w (.v w.av) ?_ (pv_den hp)
    have h1 : H.heap.get i = some (.obj c.cl) := hc
    have h2 : i < H.heap.next := hn
    simp only [opv, hs, h2, if_true, ldS, h1, hw, Option.map_some]
  · exact q.bad

/-! ### addresses -/
noncomputable def adZ (off sz : Nat) (ag : Bool) (n : Nat) (v : V) (κ : V → FR) : FR := adK n v .bad (fun s o => κ (.lp s (Nat.add o off))) (fun y => peK sz ag y off .bad fun w => κ (.im w))
  (fun i o => κ (.pt i (Nat.add o off))) (fun i ver j o => κ (.ap i ver j (Nat.add o off)))
theorem adZ_ok {q : Pr} {off sz : Nat} {ag : Bool} {n : Nat} {v : V} {s : Sl} (hv : v.dle n s) {κ : V → FR} (hk : ∀ w t, addrS off sz ag s = some t → w.den t → Agr (κ w) q) : Agr (adZ off sz ag n v κ) q := by
  refine adK_ok (P := fun r => Agr r q) hv q.bad (fun t o hs => hk _ _ (by rw [hs]; rfl) rfl) (fun y hs => peK_ok (P := fun r => Agr r q) q.bad fun w hy hw => hk (.im w) (.v (.imm w.av)) ?_ rfl) (fun i o hs => hk _ _ (by rw [hs]; rfl) rfl) (fun i w j o hs => hk _ _ (by rw [hs]; rfl) rfl)
  rw [hs]; simp only [addrS, hw, Option.map_some]
noncomputable def pFa (off sz : Nat) (ag : Bool) (a : Opd) : Pv S := (fun e _ κ => adZ off sz ag (opn a) ((opd S a).run e) κ)
theorem pFa_ok (off sz : Nat) (ag : Bool) (a : Opd) : PvOK (S := S) (.fa off sz ag a) (pFa off sz ag a) := fun e xe H κ q hH h hk =>
  adZ_ok (opd_dle h a) fun w t ht hw => hk w t (by simp only [opv, ht]) hw
noncomputable def pIa (n sz : Nat) (ag : Bool) (a i : Opd) : Pv S := (fun e _ κ => idZ ((opd S i).run e) n .bad fun j => adZ (Nat.mul j sz) sz ag (opn a) ((opd S a).run e) κ)
theorem pIa_ok (n sz : Nat) (ag : Bool) (a i : Opd) : PvOK (S := S) (.ia n sz ag a i) (pIa n sz ag a i) := fun e xe H κ q hH h hk => by
  show Agr (idZ ((opd S i).run e) n .bad fun j => adZ (Nat.mul j sz) sz ag (opn a) ((opd S a).run e) κ) q
  refine idZ_ok (opd_val h i) q.bad fun k j hj hl => adZ_ok (opd_dle h a) fun w t ht hw => hk w t ?_ hw
  simp only [opv, hj]
  rw [if_pos ⟨by omega, by omega⟩]
  exact ht
noncomputable def ixF (sz : Nat) (c : V) (j : Nat) (κ : V → FR) : FR := nthC .bad (fun y => ncK y .bad fun m => ifB (Nat.beq m sz) .bad (κ (.im y))) c j
theorem ixF_ok {q : Pr} {sz : Nat} {c : V} {j : Nat} {κ : V → FR} (h : ∀ y : V, c.cl[j]? = some y.av → y.av.cells.length = sz → Agr (κ (.im y)) q) : Agr (ixF sz c j κ) q := by
  refine nthC_ok (P := fun r => Agr r q) q.bad c j fun y hy => ncK_ok (P := fun r => Agr r q) q.bad fun _ => ?_
  rw [ifB_beq]
  split
  · rename_i hl; exact h y hy hl
  · exact q.bad
noncomputable def pIx (sz : Nat) (x i : Opd) : Pv S := (fun e H κ => slcK' ((opd S x).run e) .bad (fun _ c => nnZ ((opd S i).run e) .bad fun j => ixF sz c j κ) .bad
  fun id ver lo len => idZ ((opd S i).run e) len .bad fun j => arK id .bad (fun _ z _ _ => ifB (Nat.beq z sz) .bad (κ (.ap id ver (Nat.add lo j) 0))) H.bl)
theorem pIx_ok (sz : Nat) (x i : Opd) : PvOK (S := S) (.ix sz x i) (pIx sz x i) := fun e xe H κ q hH h hk => by
  refine slcK'_ok (P := fun r => Agr r q) (opd_val h x) q.bad (fun nl c hc => nnZ_ok (opd_val h i) q.bad fun k j hj => ixF_ok fun y hy hl => hk (.im y) (.v (.imm y.av)) ?_ rfl) (fun _ => q.bad)
    (fun id ver lo len hm => idZ_ok (opd_val h i) q.bad fun k j hj hl => arK_ok (P := fun r => Agr r q) q.bad _ hH fun nl z c hc => ?_)
  · simp only [opv, hc, hj]
    rw [if_pos (by omega)]
    simp only [Int.toNat_natCast, hy, hl, if_true]
  · rw [ifB_beq]
    split
    · rename_i hz
      refine hk (.ap id ver (lo + j) 0) _ ?_ rfl
      have h1 : H.heap.get id = some (.arr nl z c.cl) := hc
      simp only [opv, hm, hj]
      rw [if_pos ⟨by omega, by omega⟩]
      simp only [h1, hz, if_true, Int.toNat_natCast]; rfl
    · exact q.bad
noncomputable def pIxl (sz : Nat) (x i : Opd) : Pv S := (fun e _ κ => slcK' ((opd S x).run e) .bad (fun _ c => nnZ ((opd S i).run e) .bad fun j => ixF sz c j κ) .bad fun _ _ _ _ => .bad)
theorem pIxl_ok (sz : Nat) (x i : Opd) : PvOK (S := S) (.ixl sz x i) (pIxl sz x i) := fun e xe H κ q hH h hk => by
  refine slcK'_ok (P := fun r => Agr r q) (opd_val h x) q.bad (fun nl c hc => nnZ_ok (opd_val h i) q.bad fun k j hj => ixF_ok fun y hy hl => hk (.im y) (.v (.imm y.av)) ?_ rfl) (fun _ => q.bad) (fun _ _ _ _ _ => q.bad)
  simp only [opv, hc, hj]
  rw [if_pos (by omega)]
  simp only [Int.toNat_natCast, hy, hl, if_true]
noncomputable def pFld (off sz : Nat) (ag : Bool) (x : Opd) : Pv S := (fun e _ κ => agK ((opd S x).run e) .bad fun c => paK sz ag c off .bad fun w => haK w κ)
theorem pFld_ok (off sz : Nat) (ag : Bool) (x : Opd) : PvOK (S := S) (.fld off sz ag x) (pFld off sz ag x) := fun e xe H κ q hH h hk => by
  refine agK_ok (P := fun r => Agr r q) (opd_val h x) q.bad fun c hc => paK_ok (P := fun r => Agr r q) q.bad fun w hw => haK_ok fun hp => hk w (.v w.av) ?_ (pv_den hp)
  simp only [opv, hc, hw, Option.map_some]
noncomputable def pIxa (n sz : Nat) (ag : Bool) (x i : Opd) : Pv S := (fun e _ κ => agK ((opd S x).run e) .bad fun c => idZ ((opd S i).run e) n .bad fun j => paK sz ag c (Nat.mul j sz) .bad fun w => haK w κ)
theorem pIxa_ok (n sz : Nat) (ag : Bool) (x i : Opd) : PvOK (S := S) (.ixa n sz ag x i) (pIxa n sz ag x i) := fun e xe H κ q hH h hk => by
  refine agK_ok (P := fun r => Agr r q) (opd_val h x) q.bad fun c hc => idZ_ok (opd_val h i) q.bad fun k j hj hl => paK_ok (P := fun r => Agr r q) q.bad fun w hw => haK_ok fun hp => hk w (.v w.av) ?_ (pv_den hp)
  simp only [opv, hc, hj]
  rw [if_pos ⟨by omega, by omega⟩]
  show (part sz ag c.cl ((j : Int).toNat * sz)).map Sl.v = _
  rw [Int.toNat_natCast, show j * sz = Nat.mul j sz from rfl, hw]; rfl
theorem byts_get : ∀ l n j, (byts l n)[j]? = if j < l then some (UInt8.ofNat (Nat.shiftRight n (Nat.mul 8 j) % 256)) else none
  | 0, n, j => by simp [byts]
  | l + 1, n, 0 => by
    rw [shr8]; simp [byts]
  | l + 1, n, j + 1 => by
    simp only [byts, List.getElem?_cons_succ, byts_get l, shr8, Nat.pow_succ]
    rw [Nat.mul_comm (256 ^ j), ← Nat.div_div_eq_div_mul]
    by_cases h : j < l
    · rw [if_pos h, if_pos (by omega)]
    · rw [if_neg h, if_neg (by omega)]
noncomputable def pIxs (x i : Opd) : Pv S := (fun e _ κ => sK ((opd S x).run e) .bad fun l n => idZ ((opd S i).run e) l .bad fun j => κ (.u 0 (Nat.mod (Nat.shiftRight n (Nat.mul 8 j)) 256)))
theorem pIxs_ok (x i : Opd) : PvOK (S := S) (.ixs x i) (pIxs x i) := fun e xe H κ q hH h hk => by
  refine sK_ok (P := fun r => Agr r q) (opd_val h x) q.bad fun l n hs => idZ_ok (opd_val h i) q.bad fun k j hj hl => hk (.u 0 _) (.v _) ?_ rfl
  simp only [opv, hs, hj]
  rw [if_pos (by omega)]
  have e1 : (UInt8.ofNat (Nat.shiftRight n (Nat.mul 8 j) % 256)).toNat = Nat.mod (Nat.shiftRight n (Nat.mul 8 j)) 256 := by
    show _ = Nat.shiftRight n (Nat.mul 8 j) % 256
    simp
  simp only [Int.toNat_natCast, byts_get, hl, if_true, e1]; rfl
theorem toIB (n B : Nat) : AV.int .i64 (((Nat.add n B : Nat) : Int) - (B : Int)) = i64 n := by
  have : ((Nat.add n B : Nat) : Int) - (B : Int) = n := by
    show ((n + B : Nat) : Int) - (B : Int) = n
    omega
  rw [this]; rfl
theorem toI (n : Nat) : V.av (.i (Nat.add n 9223372036854775808)) = i64 n := toIB n 9223372036854775808
noncomputable def pLen (x : Opd) : Pv S := (fun e _ κ => slcK' ((opd S x).run e) .bad (fun _ c => κ (.i (Nat.add (lenC c) 9223372036854775808))) (κ (.i 9223372036854775808)) fun _ _ _ len => κ (.i (Nat.add len 9223372036854775808)))
theorem pLen_ok (x : Opd) : PvOK (S := S) (.len x) (pLen x) := fun e xe H κ q hH h hk => by
  refine slcK'_ok (P := fun r => Agr r q) (opd_val h x) q.bad (fun nl c hc => hk (.i _) (.v (i64 c.cl.length)) ?_ ?_) (fun hc => hk (.i _) (.v (i64 0)) ?_ rfl) (fun id ver lo len hc => hk (.i _) (.v (i64 len)) ?_ ?_)
  · simp only [opv, hc, lenAV, Option.map_some]
  · show Sl.v (i64 _) = Sl.v (V.av _); rw [lenC_eq, toI]
  · simp only [opv, hc, lenAV, Option.map_some]; rfl
  · simp only [opv, hc, lenAV, Option.map_some]
  · show Sl.v (i64 _) = Sl.v (V.av _); rw [toI]
noncomputable def pLns (x : Opd) : Pv S := (fun e _ κ => sK ((opd S x).run e) .bad fun l _ => κ (.i (Nat.add l 9223372036854775808)))
theorem pLns_ok (x : Opd) : PvOK (S := S) (.lns x) (pLns x) := fun e xe H κ q hH h hk => by
  refine sK_ok (P := fun r => Agr r q) (opd_val h x) q.bad fun l n hs => hk (.i _) (.v (i64 l)) ?_ ?_
  · simp only [opv, hs, byts_length]
  · show Sl.v (i64 _) = Sl.v (V.av _); rw [toI]
noncomputable def pCap (x : Opd) : Pv S := (fun e _ κ => slcK' ((opd S x).run e) .bad (fun nl c => @Bool.rec (fun _ => FR) .bad (nilF (κ (.i 9223372036854775808)) c) nl) (κ (.i 9223372036854775808)) fun _ _ _ _ => .bad)
theorem pCap_ok (x : Opd) : PvOK (S := S) (.cap x) (pCap x) := fun e xe H κ q hH h hk => by
  refine slcK'_ok (P := fun r => Agr r q) (opd_val h x) q.bad (fun nl c hc => ?_) (fun hc => hk (.i _) (.v (i64 0)) (by simp only [opv, hc]) rfl) (fun _ _ _ _ _ => q.bad)
  cases nl with
  | false => exact q.bad
  | true =>
    refine nilF_ok fun he => ?_
    rw [he] at hc
    exact hk (.i _) (.v (i64 0)) (by simp only [opv, hc]) rfl

/-! ### slices -/
/-- a bound that may be left out -/
noncomputable def boZ (S : List Nat) (b : Option Opd) (z : Nat) (e : E S) (f : Nat → FR) : FR := @Option.rec Opd (fun _ => FR) (f z) (fun o => nnZ ((opd S o).run e) .bad f) b
noncomputable def bnZ (S : List Nat) (lo hi : Option Opd) (len : Nat) (e : E S) (f : Nat → Nat → FR) : FR := boZ S hi len e fun h => boZ S lo 0 e fun l => ifB (Nat.ble l h) .bad (ifB (Nat.ble h len) .bad (f l h))
def bndV (z : Int) (v : Option AV) : Option Int := match v with
  | none => some z
  | some v => getI v
theorem boZ_ok {q : Pr} {e : E S} {x : Env} (h : Rel S e x) {b : Option Opd} {z : Nat} {f : Nat → FR} (hf : ∀ (n : Nat) v, optAV x b = some v → bndV z v = some (n : Int) → Agr (f n) q) : Agr (boZ S b z e f) q := by
  cases b with
  | none => exact hf z none rfl rfl
  | some o =>
    refine nnZ_ok (opd_val h o) q.bad fun k n hn => hf n (some (.int k n)) ?_ rfl
    simp only [optAV, hn, Option.map_some]
theorem slB {len l u : Nat} {vl vh : Option AV} (hu : bndV len vh = some (u : Int)) (hl : bndV (0 : Nat) vl = some (l : Int)) (h1 : l ≤ u) (h2 : u ≤ len) : slBounds len vl vh = some (l, u) := by
  have e : slBounds len vl vh = match bndV len vh with
    | none => none
    | some h => match bndV (0 : Nat) vl with
      | none => none
      | some l => if 0 ≤ l ∧ l ≤ h ∧ h ≤ len then some (l.toNat, h.toNat) else none := by
    cases vl <;> cases vh <;> rfl
  rw [e, hu, hl]
  simp only
  rw [if_pos ⟨by omega, by omega, by omega⟩]
  simp
theorem bnZ_ok {q : Pr} {e : E S} {x : Env} (h : Rel S e x) {lo hi : Option Opd} {len : Nat} {f : Nat → Nat → FR}
    (hf : ∀ (l u : Nat) vl vh, optAV x lo = some vl → optAV x hi = some vh → slBounds len vl vh = some (l, u) → l ≤ u → u ≤ len → Agr (f l u) q) : Agr (bnZ S lo hi len e f) q := by
  refine boZ_ok h fun u vh hvh hu => boZ_ok h fun l vl hvl hl => ?_
  rw [ifB_ble, ifB_ble]
  split
  · rename_i h1
    split
    · rename_i h2
      exact hf l u vl vh hvl hvh (slB hu hl h1 h2) h1 h2
    · exact q.bad
  · exact q.bad
noncomputable def pSl (sz : Nat) (x : Opd) (lo hi mx : Option Opd) : Pv S := (fun e H κ => @Option.rec Opd (fun _ => FR)
  (slcK' ((opd S x).run e) .bad (fun n c => ifB (allC sz c) .bad (bnZ S lo hi (lenC c) e fun l h => κ (.li n (takeC (dropC c l) (Nat.sub h l))))) (bnZ S lo hi 0 e fun _ _ => κ .c0)
    fun id ver a len => arK id .bad (fun _ z _ _ => ifB (Nat.beq z sz) .bad (bnZ S lo hi len e fun l h => κ (.ms id ver (Nat.add a l) (Nat.sub h l)))) H.bl)
  (fun m => @Option.rec Opd (fun _ => FR) (iK ((opd S m).run e) .bad fun mn => ifB (Nat.beq mn 9223372036854775808) .bad (@Option.rec Opd (fun _ => FR) .bad (fun h => iK ((opd S h).run e) .bad fun hn => ifB (Nat.beq hn 9223372036854775808) .bad
    (slcK' ((opd S x).run e) .bad (fun n _ => @Bool.rec (fun _ => FR) (κ .c0) (κ (.li true .nil)) n) (κ .c0) fun _ _ _ _ => .bad)) hi)) (fun _ => .bad) lo) mx)
theorem pSl_ok (sz : Nat) (x : Opd) (lo hi mx : Option Opd) : PvOK (S := S) (.sl sz x lo hi mx) (pSl sz x lo hi mx) := fun e xe H κ q hH h hk => by
  cases mx with
  | none =>
    refine slcK'_ok (P := fun r => Agr r q) (opd_val h x) q.bad (fun n c hc => ifB_ok (P := fun r => Agr r q) q.bad fun ha => bnZ_ok h fun l u vl vh hl hu hb _ _ => hk (.li n _) (.v _) ?_ rfl)
      (fun hc => bnZ_ok h fun l u vl vh hl hu hb _ _ => hk .c0 (.v .cap0) ?_ rfl) (fun id ver a len hc => arK_ok (P := fun r => Agr r q) q.bad _ hH fun nl z c hz => ?_)
    · rw [lenC_eq] at hb
      simp only [opv, hc, hl, hu, show optAV xe none = some none from rfl, slAV, allC_ok sz c ha, if_true, hb, Option.map_some]
      simp only [V.av, takeC_eq, dropC_eq]; rfl
    · simp only [opv, hc, hl, hu, show optAV xe none = some none from rfl, slAV, hb, Option.map_some]
    · rw [ifB_beq]
      split
      · rename_i h1
        refine bnZ_ok h fun l u vl vh hl hu hb _ _ => hk (.ms id ver _ _) (.v _) ?_ rfl
        have h2 : H.heap.get id = some (.arr nl z c.cl) := hz
        simp only [opv, hc, hl, hu, show optAV xe none = some none from rfl, slAV, h2, h1, if_true, hb, Option.map_some]; rfl
      · exact q.bad
  | some m =>
    cases lo with
    | some _ => exact q.bad
    | none =>
      refine iK_ok (P := fun r => Agr r q) (opd_val h m) q.bad fun mn hm => ?_
      rw [ifB_beq]
      split
      · rename_i h1
        subst h1
        cases hi with
        | none => exact q.bad
        | some hi =>
          refine iK_ok (P := fun r => Agr r q) (opd_val h hi) q.bad fun hn hh => ?_
          rw [ifB_beq]
          split
          · rename_i h1
            subst h1
            have z : (((9223372036854775808 : Nat) : Int) - 9223372036854775808) = 0 := by decide
            rw [z] at hm hh
            refine slcK'_ok (P := fun r => Agr r q) (opd_val h x) q.bad (fun n c hc => ?_) (fun hc => hk .c0 (.v .cap0) ?_ rfl) (fun _ _ _ _ _ => q.bad)
            · cases n with
              | false => exact hk .c0 (.v .cap0) (by simp only [opv, hc, hm, hh, optAV, slAV, Option.map_some]; rfl) rfl
              | true => exact hk (.li true .nil) (.v (.list true [])) (by simp only [opv, hc, hm, hh, optAV, slAV, Option.map_some]; rfl) rfl
            · simp only [opv, hc, hm, hh, optAV, slAV, Option.map_some]
          · exact q.bad
      · exact q.bad
theorem byts_drop : ∀ m l n, (byts l n).drop m = byts (l - m) (Nat.shiftRight n (Nat.mul 8 m))
  | 0, l, n => by rw [shr8]; simp
  | m + 1, 0, n => by simp [byts]
  | m + 1, l + 1, n => by
    simp only [byts, List.drop_succ_cons]
    rw [byts_drop m l, shr8, shr8, Nat.pow_succ, Nat.mul_comm (256 ^ m), Nat.div_div_eq_div_mul]
    congr 1
    omega
theorem byts_take : ∀ m l n, (byts l n).take m = byts (min m l) n
  | 0, l, n => by simp [byts]
  | m + 1, 0, n => by simp [byts]
  | m + 1, l + 1, n => by
    simp only [byts, List.take_succ_cons, byts_take m l]
    rw [show min (m + 1) (l + 1) = min m l + 1 from by omega]
    rfl
noncomputable def pSs (x : Opd) (lo hi : Option Opd) : Pv S := (fun e _ κ => sK ((opd S x).run e) .bad fun len n => bnZ S lo hi len e fun l h => κ (.s (Nat.sub h l) (Nat.shiftRight n (Nat.mul 8 l))))
theorem pSs_ok (x : Opd) (lo hi : Option Opd) : PvOK (S := S) (.ss x lo hi) (pSs x lo hi) := fun e xe H κ q hH h hk => by
  refine sK_ok (P := fun r => Agr r q) (opd_val h x) q.bad fun len n hs => bnZ_ok h fun l u vl vh hl hu hb h1 h2 => hk (.s _ _) (.v _) ?_ rfl
  simp only [opv, hs, hl, hu, byts_length, hb, Option.map_some]
  rw [byts_drop, byts_take, Nat.min_eq_left (by omega)]; rfl

/-! ### tuples, interfaces, function values, minimum and maximum -/
noncomputable def pExt (i : Nat) (x : Opd) : Pv S := (fun e _ κ => tuK ((opd S x).run e) .bad fun c => nthC .bad (fun w => haK w κ) c i)
theorem pExt_ok (i : Nat) (x : Opd) : PvOK (S := S) (.ext i x) (pExt i x) := fun e xe H κ q hH h hk => by
  refine tuK_ok (P := fun r => Agr r q) (opd_val h x) q.bad fun c hc => nthC_ok (P := fun r => Agr r q) q.bad c i fun w hw => haK_ok fun hp => hk w (.v w.av) ?_ (pv_den hp)
  simp only [opv, hc, hw, Option.map_some]
noncomputable def pMkif (t : Nat) (x : Opd) : Pv S := (fun e _ κ => haK ((opd S x).run e) fun v => κ (.fc t v))
theorem pMkif_ok (t : Nat) (x : Opd) : PvOK (S := S) (.mkif t x) (pMkif t x) := fun e xe H κ q hH h hk => by
  refine haK_ok (v := (opd S x).run e) (κ := fun v => κ (.fc t v)) fun hp => hk (.fc t ((opd S x).run e)) (.v _) ?_ rfl
  simp only [opv, opd_val h x _ hp]; rfl
noncomputable def pTas (t : Nat) (z : AV) (ok : Bool) (x : Opd) : Pv S := (fun e _ κ => fcK ((opd S x).run e) .bad
  (fun t' v => ifB (Nat.beq t' t) (@Bool.rec (fun _ => FR) .bad (κ (.tu (.one (ofAV z) (.one (.b false) .nil)))) ok) (haK v fun v => @Bool.rec (fun _ => FR) (κ v) (κ (.tu (.one v (.one (.b true) .nil)))) ok))
  (@Bool.rec (fun _ => FR) .bad (κ (.tu (.one (ofAV z) (.one (.b false) .nil)))) ok))
theorem pTas_ok (t : Nat) (z : AV) (ok : Bool) (x : Opd) : PvOK (S := S) (.tas t z ok x) (pTas t z ok x) := fun e xe H κ q hH h hk => by
  have hzav := (ofAV_pv z).2
  refine fcK_ok (P := fun r => Agr r q) (opd_val h x) q.bad (fun t' v hv => ?_) (fun hz => ?_)
  · rw [ifB_beq]
    split
    · rename_i ht
      refine haK_ok fun hp => ?_
      cases ok with
      | false => exact hk v (.v v.av) (by simp only [opv, hv, ht, if_true]; rfl) (pv_den hp)
      | true => exact hk (.tu _) (.v (.tup [v.av, .bool true])) (by simp only [opv, hv, ht, if_true]) rfl
    · rename_i ht
      cases ok with
      | false => exact q.bad
      | true => exact hk (.tu _) (.v (.tup [z, .bool false])) (by simp only [opv, hv, ht, if_false, if_true]) (by show Sl.v _ = Sl.v (.tup [(ofAV z).av, .bool false]); rw [hzav])
  · cases ok with
    | false => exact q.bad
    | true => exact hk (.tu _) (.v (.tup [z, .bool false])) (by simp only [opv, hz, if_true]) (by show Sl.v _ = Sl.v (.tup [(ofAV z).av, .bool false]); rw [hzav])
noncomputable def pMkfn (f : Nat) (cap : List Opd) : Pv S := (fun e _ κ => (argC S cap).run e fun c => κ (.fn f c))
theorem pMkfn_ok (f : Nat) (cap : List Opd) : PvOK (S := S) (.mkfn f cap) (pMkfn f cap) := fun e xe H κ q hH h hk =>
  argC_ok h cap fun w vs hvs hc => hk (.fn f w) (.v (.fn f vs)) (by simp only [opv, hvs]) (by show Sl.v _ = Sl.v (.fn f w.cl); rw [hc])
noncomputable def pNilc (x : Opd) : Pv S := (fun e _ κ => ncmK (opn x) ((opd S x).run e) .bad κ)
theorem pNilc_ok (x : Opd) : PvOK (S := S) (.nilc x) (pNilc x) := fun e xe H κ q hH h hk => by
  refine ncmK_ok (P := fun r => Agr r q) (opd_dle h x) q.bad fun w hw hs => hk w _ ?_ hw
  simp only [opv]; exact hs
noncomputable def mmN (mx : Bool) (a b : Nat) : Nat := ifB (Nat.ble a b) (@Bool.rec (fun _ => Nat) b a mx) (@Bool.rec (fun _ => Nat) a b mx)
theorem mmN_eq (mx : Bool) (a b : Nat) : mmN mx a b = if mx then max a b else min a b := by
  simp only [mmN, ifB_ble]
  cases mx <;> by_cases hab : a ≤ b
  · rw [if_pos hab]; simp; omega
  · rw [if_neg hab]; simp; omega
  · rw [if_pos hab]; simp; omega
  · rw [if_neg hab]; simp; omega
theorem mmI (mx : Bool) (a b : Nat) (B : Int) : ((mmN mx a b : Nat) : Int) - B = if mx then max ((a : Int) - B) ((b : Int) - B) else min ((a : Int) - B) ((b : Int) - B) := by
  rw [mmN_eq]; cases mx <;> simp <;> omega
noncomputable def pMnmx (mx : Bool) (x y : Opd) : Pv S := (fun e _ κ => numK ((opd S x).run e) .bad (fun a => iK ((opd S y).run e) .bad fun b => κ (.i (mmN mx a b)))
  (fun k a => uK ((opd S y).run e) .bad fun k' b => ifB (Nat.beq k k') .bad (κ (.u k (mmN mx a b)))) (fun _ _ => .bad))
theorem pMnmx_ok (mx : Bool) (x y : Opd) : PvOK (S := S) (.mnmx mx x y) (pMnmx mx x y) := fun e xe H κ q hH h hk => by
  refine numK_ok (P := fun r => Agr r q) (opd_val h x) q.bad (fun a ha => iK_ok (P := fun r => Agr r q) (opd_val h y) q.bad fun b hb => hk (.i _) (.v _) ?_ rfl)
    (fun k a ha => uK_ok (P := fun r => Agr r q) (opd_val h y) q.bad fun k' b hb => ?_) (fun _ _ _ => q.bad)
  · simp only [opv, ha, hb, if_true, V.av, mmI]
  · rw [ifB_beq]
    split
    · rename_i hk'
      subst hk'
      refine hk (.u k _) (.v _) ?_ rfl
      have := mmI mx a b 0
      simp only [Int.sub_zero] at this
      simp only [opv, ha, hb, if_true, V.av, this]
    · exact q.bad
noncomputable def pBim (sz : Nat) (x : Opd) : Pv S := (fun e _ κ => ncK ((opd S x).run e) .bad fun m => ifB (Nat.beq m sz) .bad (κ (.im ((opd S x).run e))))
theorem pBim_ok (sz : Nat) (x : Opd) : PvOK (S := S) (.bim sz x) (pBim sz x) := fun e xe H κ q hH h hk => by
  show Agr (ncK ((opd S x).run e) .bad fun m => ifB (Nat.beq m sz) .bad (κ (.im ((opd S x).run e)))) q
  refine ncK_ok (P := fun r => Agr r q) q.bad fun hp => ?_
  rw [ifB_beq]
  split
  · rename_i hl
    refine hk (.im _) (.v _) ?_ rfl
    simp only [opv, opd_val h x _ hp, hl, if_true]; rfl
  · exact q.bad
noncomputable def pSla (n : Nat) (a : Opd) (lo hi : Option Opd) : Pv S := (fun e _ κ => imK ((opd S a).run e) .bad fun y => ceK y .bad fun c => ifB (Nat.beq (lenC c) n) .bad (bnZ S lo hi n e fun l h => κ (.li false (takeC (dropC c l) (Nat.sub h l)))))
theorem pSla_ok (n : Nat) (a : Opd) (lo hi : Option Opd) : PvOK (S := S) (.sla n a lo hi) (pSla n a lo hi) := fun e xe H κ q hH h hk => by
  refine imK_ok (P := fun r => Agr r q) (opd_val h a) q.bad fun y hy => ceK_ok (P := fun r => Agr r q) q.bad fun c hp hc => ?_
  rw [ifB_beq, lenC_eq]
  split
  · rename_i hl
    rw [hc] at hl
    refine bnZ_ok h fun l u vl vh hl' hu hb _ _ => hk (.li false _) (.v _) ?_ rfl
    simp only [opv, hy, hl', hu, hl, if_true, hb, Option.map_some]
    simp only [V.av, takeC_eq, dropC_eq, hc]; rfl
  · exact q.bad
noncomputable def pSt0 (a v : Opd) : Pv S := (fun e _ κ => adK (opn a) ((opd S a).run e) .bad (fun _ _ => agK ((opd S v).run e) .bad fun c => nilF (κ .un) c) (fun _ => .bad) (fun _ _ => .bad) fun _ _ _ _ => .bad)
theorem pSt0_ok (a v : Opd) : PvOK (S := S) (.st0 a v) (pSt0 a v) := fun e xe H κ q hH h hk => by
  show Agr (adK (opn a) ((opd S a).run e) .bad (fun _ _ => agK ((opd S v).run e) .bad fun c => nilF (κ .un) c) (fun _ => .bad) (fun _ _ => .bad) fun _ _ _ _ => .bad) q
  refine adK_ok (P := fun r => Agr r q) (opd_dle h a) q.bad (fun t o hs => agK_ok (P := fun r => Agr r q) (opd_val h v) q.bad fun c hc => nilF_ok fun he => hk .un .un ?_ rfl) (fun _ _ => q.bad) (fun _ _ _ => q.bad) (fun _ _ _ _ _ => q.bad)
  rw [he] at hc
  simp only [opv, hs, hc]

/-! ### literals -/
/-- parts written into a list of values of so many cells -/
structure Mk (S : List Nat) where
  run : E S → V → (V → FR) → FR
noncomputable def mkC (S : List Nat) (nz n : Nat) : List (Nat × Opd) → Mk S
  | [] => ⟨fun _ c κ => κ c⟩
  | (i, o) :: l => bif Nat.ble (Nat.succ i) n then ⟨fun e c κ => ncK ((opd S o).run e) .bad fun m => ifB (Nat.beq m nz) .bad (setK ((opd S o).run e) .bad c i fun c' => (mkC S nz n l).run e c' κ)⟩ else ⟨fun _ _ _ => .bad⟩
theorem mkC_ok {q : Pr} {nz n : Nat} {e : E S} {x : Env} (h : Rel S e x) : ∀ (l : List (Nat × Opd)) {c : V} {κ : V → FR}, (∀ y ∈ c.cl, y.cells.length = nz) → c.cl.length = n →
    (∀ w ps, allParts x l = some ps → mklAV c.cl ps = some w.cl → Agr (κ w) q) → Agr ((mkC S nz n l).run e c κ) q
  | [], c, κ, _, _, hk => hk c [] rfl rfl
  | (i, o) :: l, c, κ, hz, hn, hk => by
    simp only [mkC]
    cases hb : Nat.ble (Nat.succ i) n with
    | false => exact q.bad
    | true =>
      have h2 : i < n := Nat.le_of_ble_eq_true hb
      have h2' : i < c.cl.length := by rw [hn]; exact h2
      simp only [cond_true]
      refine ncK_ok (P := fun r => Agr r q) q.bad fun hp => ?_
      rw [ifB_beq]
      split
      · rename_i h1
        refine setK_ok _ q.bad c i _ fun c' _ hc' => mkC_ok h l (fun y hy => ?_) ?_ fun w ps hps hw => hk w ((i, ((opd S o).run e).av) :: ps) ?_ ?_
        · rw [hc'] at hy
          rcases List.mem_or_eq_of_mem_set hy with hy | hy
          · exact hz y hy
          · rw [hy]; exact h1
        · rw [hc', List.length_set]; exact hn
        · simp only [allParts, opd_val h o _ hp, hps, Option.map_some]
        · rw [hc'] at hw
          simp only [mklAV]
          rw [List.getElem?_eq_getElem h2']
          simp only
          rw [if_pos (by rw [hz _ (List.getElem_mem h2')]; exact h1)]
          exact hw
      · exact q.bad
noncomputable def pMkl (z : AV) (n : Nat) (ps : List (Nat × Opd)) : Pv S := (fun e _ κ => (mkC S z.cells.length n ps).run e (repC n (ofAV z)) fun c => κ (.li false c))
theorem pMkl_ok (z : AV) (n : Nat) (ps : List (Nat × Opd)) : PvOK (S := S) (.mkl z n ps) (pMkl z n ps) := fun e xe H κ q hH h hk => by
  have hc : (repC n (ofAV z)).cl = List.replicate n z := by rw [repC_eq, (ofAV_pv z).2]
  refine mkC_ok h ps (fun y hy => ?_) (by rw [hc, List.length_replicate]) fun w vs hvs hw => hk (.li false w) (.v _) ?_ rfl
  · rw [hc] at hy; rw [List.eq_of_mem_replicate hy]
  · rw [hc] at hw
    simp only [opv, hvs, hw, Option.map_some]; rfl
noncomputable def blC (S : List Nat) : List ((Nat × Nat) × Opd) → Mk S
  | [] => ⟨fun _ c κ => κ c⟩
  | ((off, sz), o) :: l => bif Nat.beq sz 1 then ⟨fun e c κ => onK ((opd S o).run e) .bad (setK ((opd S o).run e) .bad c off fun c' => (blC S l).run e c' κ)⟩
    else ⟨fun e c κ => wrK sz ((opd S o).run e) c off .bad fun c' => (blC S l).run e c' κ⟩
theorem blC_ok {q : Pr} {e : E S} {x : Env} (h : Rel S e x) : ∀ (l : List ((Nat × Nat) × Opd)) {c : V} {κ : V → FR},
    (∀ w ps, allParts x l = some ps → fillAV c.cl ps = some w.cl → Agr (κ w) q) → Agr ((blC S l).run e c κ) q
  | [], c, κ, hk => hk c [] rfl rfl
  | ((off, sz), o) :: l, c, κ, hk => by
    simp only [blC, beq_dec]
    by_cases h1 : sz = 1
    · subst h1
      simp only [decide_true, cond_true]
      refine onK_ok (P := fun r => Agr r q) q.bad fun hp h1 => setK_ok _ q.bad c off _ fun c' hl hc' => blC_ok h l fun u ps hps hu => hk u (((off, 1), ((opd S o).run e).av) :: ps) ?_ ?_
      · simp only [allParts, opd_val h o _ hp, hps, Option.map_some]
      · rw [hc', set_putAt hl] at hu
        simp only [fillAV, one_cells h1]
        rw [if_pos ⟨rfl, hl⟩]; exact hu
    · simp only [h1, decide_false, cond_false]
      refine wrK_ok q.bad fun w hp hs hl hw => blC_ok h l fun u ps hps hu => hk u (((off, sz), ((opd S o).run e).av) :: ps) ?_ ?_
      · simp only [allParts, opd_val h o _ hp, hps, Option.map_some]
      · rw [hw] at hu
        simp only [fillAV]
        rw [if_pos ⟨hs, hl⟩]; exact hu
noncomputable def pBld (z : AV) (ps : List ((Nat × Nat) × Opd)) : Pv S := (fun e _ κ => (blC S ps).run e (ofCs z.cells) fun c => κ (.ag c))
theorem pBld_ok (z : AV) (ps : List ((Nat × Nat) × Opd)) : PvOK (S := S) (.bld z ps) (pBld z ps) := fun e xe H κ q hH h hk => by
  refine blC_ok h ps fun w vs hvs hw => hk (.ag w) (.v _) ?_ rfl
  rw [ofCs_cl] at hw
  simp only [opv, hvs, hw, Option.map_some]; rfl

/-! ### strings and bytes, the library's entries -/
noncomputable def slowV (r : Option AV) (κ : V → FR) : FR := @Option.rec AV (fun _ => FR) .bad (fun a => κ (ofAV a)) r
theorem slowV_ok {q : Pr} {r : Option AV} {κ : V → FR} (h : ∀ a, r = some a → Agr (κ (ofAV a)) q) : Agr (slowV r κ) q := by
  cases r with
  | none => exact q.bad
  | some a => exact h a rfl
noncomputable def pk8 : Nat → Nat → Nat := @Nat.rec (fun _ => Nat → Nat) (fun _ => 0) (fun _ ih n => Nat.add (Nat.mul (ih (Nat.div n 18446744073709551616)) 256) (Nat.mod n 18446744073709551616))
noncomputable def ck8 : Nat → Nat → Bool := @Nat.rec (fun _ => Nat → Bool) (fun _ => true) (fun _ ih n => ifB (Nat.ble (Nat.mod n 18446744073709551616) 255) false (ih (Nat.div n 18446744073709551616)))
theorem pk8_ok : ∀ l n, ck8 l n = true → (digs 2 l n).mapM byteOf = some (byts l (pk8 l n))
  | 0, _, _ => rfl
  | l + 1, n, h => by
    have h' : ifB (Nat.ble (n % 18446744073709551616) 255) false (ck8 l (n / 18446744073709551616)) = true := h
    rw [ifB_ble] at h'
    split at h'
    · rename_i h1
      have e : pk8 (l + 1) n = pk8 l (n / 18446744073709551616) * 256 + n % 18446744073709551616 := rfl
      have hb : byteOf (scal 2 (n % 18446744073709551616)) = some (UInt8.ofNat (n % 18446744073709551616)) := by
        show (if (0 : Int) ≤ ((n % 18446744073709551616 : Nat) : Int) ∧ ((n % 18446744073709551616 : Nat) : Int) < 256 then some (UInt8.ofNat ((n % 18446744073709551616 : Nat) : Int).toNat) else none) = _
        rw [if_pos ⟨by omega, by omega⟩, Int.toNat_natCast]
      simp only [digs, byts, List.mapM_cons, hb, pk8_ok l _ h', e]
      have e1 : (pk8 l (n / 18446744073709551616) * 256 + n % 18446744073709551616) % 256 = n % 18446744073709551616 := by omega
      have e2 : (pk8 l (n / 18446744073709551616) * 256 + n % 18446744073709551616) / 256 = pk8 l (n / 18446744073709551616) := by omega
      rw [e1, e2]; rfl
    · cases h'
noncomputable def cvbC (c : V) (κ : V → FR) : FR := clRec (slowV (c.cl.mapM byteOf |>.map .str) κ) (fun _ _ _ => slowV (c.cl.mapM byteOf |>.map .str) κ)
  (fun k l n t _ => nilC' (slowV (c.cl.mapM byteOf |>.map .str) κ) (ifB (Nat.beq k 2) (slowV (c.cl.mapM byteOf |>.map .str) κ) (ifB (ck8 l n) (slowV (c.cl.mapM byteOf |>.map .str) κ) (κ (.s l (pk8 l n))))) t) c
where nilC' (s x : FR) (t : V) : FR := clRec x (fun _ _ _ => s) (fun _ _ _ _ _ => s) t
theorem cvbC_ok {q : Pr} {c : V} {κ : V → FR} (h : ∀ w s, c.cl.mapM byteOf = some s → w.pv = some (.str s) → Agr (κ w) q) : Agr (cvbC c κ) q := by
  have sl : Agr (slowV (c.cl.mapM byteOf |>.map .str) κ) q := slowV_ok fun a ha => by
    cases hm : c.cl.mapM byteOf with
    | none => rw [hm] at ha; cases ha
    | some s => rw [hm] at ha; obtain rfl := Option.some.inj ha; exact h _ s hm (ofAV_pv _).1
  unfold cvbC
  revert sl
  generalize slowV (c.cl.mapM byteOf |>.map .str) κ = s
  revert h
  refine cl_cases (P := fun c => (∀ w s, c.cl.mapM byteOf = some s → w.pv = some (.str s) → Agr (κ w) q) → Agr s q → Agr (clRec s (fun _ _ _ => s) (fun k l n t _ => cvbC.nilC' s (ifB (Nat.beq k 2) s (ifB (ck8 l n) s (κ (.s l (pk8 l n))))) t) c) q) (fun _ _ _ _ sl => sl) (fun k l n t _ h sl => ?_) (fun v h0 _ _ sl => by rw [h0]; exact sl) c
  show Agr (cvbC.nilC' s (ifB (Nat.beq k 2) s (ifB (ck8 l n) s (κ (.s l (pk8 l n))))) t) q
  revert h
  refine cl_cases (P := fun t => (∀ w s, (V.run k l n t).cl.mapM byteOf = some s → w.pv = some (.str s) → Agr (κ w) q) → Agr (cvbC.nilC' s (ifB (Nat.beq k 2) s (ifB (ck8 l n) s (κ (.s l (pk8 l n))))) t) q) (fun _ _ _ _ => sl) (fun _ _ _ _ _ _ => sl) (fun v h0 h1 h => ?_) t
  unfold cvbC.nilC'
  rw [h0, ifB_beq]
  split
  · rename_i hk
    subst hk
    refine ifB_ok (P := fun r => Agr r q) sl fun hc => h _ _ ?_ rfl
    simp only [V.cl, h1, List.append_nil]
    exact pk8_ok l n hc
  · exact sl
noncomputable def pCvb (x : Opd) : Pv S := (fun e H κ => slcK' ((opd S x).run e) .bad (fun _ c => cvbC c κ) (κ (.s 0 0))
  fun id ver lo len => arK id .bad (fun _ z l c => ifB (Nat.beq z 1) .bad (ifB (Nat.beq l ver) .bad (ifB (Nat.ble (Nat.add lo len) ver) .bad (cvbC (takeC (dropC c lo) len) κ)))) H.bl)
theorem pCvb_ok (x : Opd) : PvOK (S := S) (.cvb x) (pCvb x) := fun e xe H κ q hH h hk => by
  refine slcK'_ok (P := fun r => Agr r q) (opd_val h x) q.bad (fun nl c hc => cvbC_ok fun w s hs hw => hk w (.v (.str s)) ?_ (pv_den hw)) (fun hc => hk (.s 0 0) (.v (.str [])) ?_ rfl) (fun id ver lo len hc => arK_ok (P := fun r => Agr r q) q.bad _ hH fun nl z c hz => ?_)
  · simp only [opv, hc, hs, Option.map_some]
  · simp only [opv, hc]
  · rw [ifB_beq, ifB_beq, ifB_ble]
    by_cases h1 : z = 1
    · by_cases h2 : c.cl.length = ver
      · by_cases h3 : Nat.add lo len ≤ ver
        · rw [if_pos h1, if_pos h2, if_pos h3]
          refine cvbC_ok fun w s hs hw => hk w (.v (.str s)) ?_ (pv_den hw)
          subst h1
          have h4 : H.heap.get id = some (.arr nl 1 c.cl) := hz
          have h3' : lo + len ≤ ver := h3
          rw [takeC_eq, dropC_eq] at hs
          simp only [opv, hc, h4, h2, h3', and_self, if_true, hs, Option.map_some]
        · rw [if_pos h1, if_pos h2, if_neg h3]; exact q.bad
      · rw [if_pos h1, if_neg h2]; exact q.bad
    · rw [if_neg h1]; exact q.bad
noncomputable def up8 : Nat → Nat → Nat := @Nat.rec (fun _ => Nat → Nat) (fun _ => 0) (fun _ ih n => Nat.add (Nat.mul (ih (Nat.div n 256)) 18446744073709551616) (Nat.mod n 256))
theorem up8_eq : ∀ l n, digs 2 l (up8 l n) = (byts l n).map fun b => .int .u8 b.toNat
  | 0, _ => rfl
  | l + 1, n => by
    have e : up8 (l + 1) n = up8 l (n / 256) * 18446744073709551616 + n % 256 := rfl
    simp only [digs, byts, List.map_cons, e]
    have e1 : (up8 l (n / 256) * 18446744073709551616 + n % 256) % 18446744073709551616 = n % 256 := by omega
    have e2 : (up8 l (n / 256) * 18446744073709551616 + n % 256) / 18446744073709551616 = up8 l (n / 256) := by omega
    rw [e1, e2, up8_eq l]
    simp [scal, kk]
noncomputable def pCvs (x : Opd) : Pv S := (fun e _ κ => sK ((opd S x).run e) .bad fun l n => κ (.li false (.run 2 l (up8 l n) .nil)))
theorem pCvs_ok (x : Opd) : PvOK (S := S) (.cvs x) (pCvs x) := fun e xe H κ q hH h hk => by
  refine sK_ok (P := fun r => Agr r q) (opd_val h x) q.bad fun l n hs => hk (.li false _) (.v _) ?_ rfl
  simp only [opv, hs, V.av, V.cl, List.append_nil, up8_eq]
noncomputable def pCvl (x : Opd) : Pv S := (fun e _ κ => slcK' ((opd S x).run e) .bad (fun n c => κ (.li n c)) .bad fun _ _ _ _ => .bad)
theorem pCvl_ok (x : Opd) : PvOK (S := S) (.cvl x) (pCvl x) := fun e xe H κ q hH h hk => by
  refine slcK'_ok (P := fun r => Agr r q) (opd_val h x) q.bad (fun n c hc => hk (.li n c) (.v _) ?_ rfl) (fun _ => q.bad) (fun _ _ _ _ _ => q.bad)
  simp only [opv, hc]; rfl
/-- where a byte stands -/
noncomputable def ix8 (c : Nat) : Nat → Nat → Nat → Nat := @Nat.rec (fun _ => Nat → Nat → Nat) (fun _ _ => 9223372036854775807) (fun _ ih n i => ifB (Nat.beq (Nat.mod n 256) c) (ih (Nat.div n 256) (Nat.succ i)) (Nat.add i 9223372036854775808))
theorem ix8_eq (c : Nat) (hc : c < 256) : ∀ l n i, ((ix8 c l n i : Nat) : Int) - 9223372036854775808 = idxB (UInt8.ofNat c) i (byts l n)
  | 0, n, i => rfl
  | l + 1, n, i => by
    show ((ifB (Nat.beq (n % 256) c) (ix8 c l (n / 256) (i + 1)) (i + 9223372036854775808) : Nat) : Int) - _ = _
    rw [ifB_beq]
    simp only [byts, idxB]
    have e1 : (UInt8.ofNat (n % 256)).toNat = n % 256 := by simp
    have e2 : (UInt8.ofNat c).toNat = c := by simp; omega
    rw [e1, e2]
    by_cases h : n % 256 = c
    · rw [if_pos h, if_pos (by rw [h]; simp)]; omega
    · rw [if_neg h, if_neg (by rw [beq_dec]; simp [h])]
      exact ix8_eq c hc l _ _
noncomputable def natZ (k : Nat) (w : V) (κ : V → FR) : FR := slowV (natAV k w.cl) κ
noncomputable def pNat (k : Nat) (args : List Opd) : Pv S := (fun e _ κ => @Nat.rec (fun _ => FR) ((argC S args).run e fun w => natZ k w κ) (fun k1 _ => @Nat.rec (fun _ => FR)
  (@List.rec Opd (fun _ => FR) .bad (fun a t _ => @List.rec Opd (fun _ => FR) .bad (fun b t2 _ => @List.rec Opd (fun _ => FR) (sK ((opd S a).run e) .bad fun l n => uK ((opd S b).run e) .bad fun kb c => ifB (Nat.beq kb 0) .bad (ifB (Nat.ble c 255) .bad (κ (.i (ix8 c l n 0))))) (fun _ _ _ => .bad) t2) t) args)
  (fun _ _ => (argC S args).run e fun w => natZ k w κ) k1) k)
theorem pNat_ok (k : Nat) (args : List Opd) : PvOK (S := S) (.nat k args) (pNat k args) := fun e xe H κ q hH h hk => by
  have slow : Agr ((argC S args).run e fun w => natZ k w κ) q := argC_ok h args fun w vs hvs hc => slowV_ok fun a ha => hk _ (.v a) (by simp only [opv, hvs]; rw [← hc, ha]; rfl) (pv_den (ofAV_pv a).1)
  match k, slow with
  | 0, slow => exact slow
  | k + 2, slow => exact slow
  | 1, _ =>
    match args with
    | [] => exact q.bad
    | [a] => exact q.bad
    | a :: b :: c :: t => exact q.bad
    | [a, b] =>
      refine sK_ok (P := fun r => Agr r q) (opd_val h a) q.bad fun l n hs => uK_ok (P := fun r => Agr r q) (opd_val h b) q.bad fun kb c hb => ?_
      rw [ifB_beq, ifB_ble]
      split
      · rename_i h1
        subst h1
        split
        · rename_i h2
          have h2' : c ≤ 255 := h2
          refine hk (.i _) (.v _) ?_ rfl
          simp only [opv, allAV, hs, hb, Option.map_some, V.av, ix8_eq c (by omega)]
          simp [natAV, kk]
        · exact q.bad
      · exact q.bad
noncomputable def pBad : Pv S := (fun _ _ _ => .bad)
theorem pBad_ok (op : AOp) : PvOK (S := S) op pBad := fun _ _ _ _ q _ _ _ => q.bad

end
end Ey
