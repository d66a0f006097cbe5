/- Decode: by hand. -/
import Derived.Test.YtmjbahmjgajmiaaGreatDoorScSp
set_option maxRecDepth 100000
namespace Ey.Sc
open Go (IntKind)
variable {Φ : Nat → Option AFn}

theorem agg_cells (cs : List AV) : (AV.agg cs).cells = cs := rfl
def Fresh (H : Heap) : Prop := ∀ j, H.next ≤ j → H.get j = none

/-- a command's pages, of a command that is done -/
def TP (p : AV) (l : List Int) : Prop := ∃ n : Bool, p = .list n (ints .i64 l) ∧ (n = true → l = [])
def CmdF (v : AV) (c : Scr.MC) : Prop := ∃ t p, v = .agg [.int .i64 c.kind, .int .i64 c.a, .int .i64 c.b, t, p] ∧ TV t c.text ∧ TP p c.pages

/-- one element of what is decoded: its pages lie between two numbers, not at o -/
def EV (H : Heap) (o lo up : Nat) (v : AV) (c : Scr.MC) : Prop := lo ≤ up ∧ ∃ t p, v = .agg [.int .i64 c.kind, .int .i64 c.a, .int .i64 c.b, t, p] ∧ TV t c.text ∧
  ((c.pages = [] ∧ p = .list true []) ∨ ∃ q, lo ≤ q ∧ q < up ∧ q ≠ o ∧ p = .ms q c.pages.length 0 c.pages.length ∧ H.get q = some (.arr false 1 (ints .i64 c.pages)))
inductive Els (H : Heap) (o : Nat) : Nat → Nat → List AV → List Scr.MC → Prop
  | nil (lo up : Nat) (h : lo ≤ up) : Els H o lo up [] []
  | cons {lo mid up : Nat} {v : AV} {c : Scr.MC} {xs : List AV} {cs : List Scr.MC} (he : EV H o lo mid v c) (h : Els H o mid up xs cs) : Els H o lo up (v :: xs) (c :: cs)

theorem Els.le {H : Heap} {o lo up : Nat} {xs : List AV} {cs : List Scr.MC} (h : Els H o lo up xs cs) : lo ≤ up := by
  induction h with
  | nil lo up h => exact h
  | cons he _ ih => exact Nat.le_trans he.1 ih
theorem Els.stay {H H' : Heap} {o lo up : Nat} {xs : List AV} {cs : List Scr.MC} (h : Els H o lo up xs cs) : (∀ q, lo ≤ q → q < up → q ≠ o → H'.get q = H.get q) → Els H' o lo up xs cs := by
  induction h with
  | nil lo up h => exact fun _ => .nil lo up h
  | cons he h ih =>
    intro hs
    obtain ⟨hl, t, p, hv, ht, hp⟩ := he
    have hle := h.le
    refine .cons ⟨hl, t, p, hv, ht, ?_⟩ (ih fun q h1 h2 h3 => hs q (by omega) h2 h3)
    rcases hp with hp | ⟨q, h1, h2, h3, h4, h5⟩
    · exact .inl hp
    · exact .inr ⟨q, h1, h2, h3, h4, (hs q h1 (by omega) h3).trans h5⟩
theorem Els.snoc {H : Heap} {o lo up up' : Nat} {xs : List AV} {cs : List Scr.MC} {v : AV} {c : Scr.MC} (h : Els H o lo up xs cs) : EV H o up up' v c → Els H o lo up' (xs ++ [v]) (cs ++ [c]) := by
  induction h with
  | nil lo up h => exact fun ⟨hl, t, p, hv, ht, hp⟩ => .cons (mid := up') ⟨by omega, t, p, hv, ht, hp.imp id fun ⟨q, h1, h2, h3⟩ => ⟨q, by omega, h2, h3⟩⟩ (.nil _ _ (Nat.le_refl _))
  | cons he _ ih => exact fun hv => .cons he (ih hv)

/-- two lists, place by place -/
inductive All2 {α β : Type} (R : α → β → Prop) : List α → List β → Prop
  | nil : All2 R [] []
  | cons {a : α} {b : β} {x : List α} {y : List β} (h : R a b) (t : All2 R x y) : All2 R (a :: x) (b :: y)
theorem All2.length {α β : Type} {R : α → β → Prop} {x : List α} {y : List β} (h : All2 R x y) : x.length = y.length := by
  induction h with
  | nil => rfl
  | cons _ _ ih => simp [ih]
theorem All2.get {α β : Type} {R : α → β → Prop} {x : List α} {y : List β} (h : All2 R x y) : ∀ {i : Nat} {a : α} {b : β}, x[i]? = some a → y[i]? = some b → R a b := by
  induction h with
  | nil => intro i a b ha; simp at ha
  | cons h _ ih =>
    intro i a b ha hb
    cases i with
    | zero => simp at ha hb; subst ha; subst hb; exact h
    | succ i => simp at ha hb; exact ih ha hb
theorem All2.append {α β : Type} {R : α → β → Prop} {x x' : List α} {y y' : List β} (h : All2 R x y) (h' : All2 R x' y') : All2 R (x ++ x') (y ++ y') := by
  induction h with
  | nil => exact h'
  | cons h _ ih => exact .cons h ih
theorem All2.mono {α β : Type} {R R' : α → β → Prop} {x : List α} {y : List β} (h : All2 R x y) (hr : ∀ a b, R a b → R' a b) : All2 R' x y := by
  induction h with
  | nil => exact .nil
  | cons h _ ih => exact .cons (hr _ _ h) ih

def fzC : Fz := .ag 3 (.sl .no) (.ag 4 (.sl .no) .no)

theorem fz_list (f : Fz) (H : Heap) (n : Bool) (xs : List AV) : fzV (.sl f) H (.list n xs) = some (.list n xs, H) := by simp [fzV]
theorem fz_ms {H : Heap} {q : Nat} (l : List Int) (hro : ¬ q < H.ro) (hg : H.get q = some (.arr false 1 (ints .i64 l))) : fzV (.sl .no) H (.ms q l.length 0 l.length) = some (.list false (ints .i64 l), H.put q none) := by
  have hl : (ints .i64 l).length = l.length := by simp [ints]
  simp [fzV, hro, hg, hl]
  rw [← hl, List.take_length]

theorem fz_els {o : Nat} : ∀ {xs : List AV} {cs : List Scr.MC} {lo up : Nat} {H : Heap}, H.ro ≤ lo → Els H o lo up xs cs → ∃ ys H', fzAll (fzV fzC) H xs = some (ys, H') ∧ All2 CmdF ys cs
  | [], cs, lo, up, H, _, h => by cases h; exact ⟨[], _, rfl, .nil⟩
  | v :: xs, cs, lo, up, H, hro, h => by
    cases h with
    | @cons _ mid _ _ c _ cs he h =>
      obtain ⟨hl, t, p, rfl, ⟨n, rfl, hn⟩, hp⟩ := he
      rcases hp with ⟨hp, rfl⟩ | ⟨q, h1, h2, h3, rfl, h5⟩
      · obtain ⟨ys, H', e1, e2⟩ := fz_els (by omega) h
        refine ⟨.agg [.int .i64 c.kind, .int .i64 c.a, .int .i64 c.b, .list n (c.text.map byt), .list true []] :: ys, H', ?_, .cons ⟨_, _, rfl, ⟨n, rfl, hn⟩, true, by rw [hp]; rfl, fun _ => hp⟩ e2⟩
        simp [fzAll, fzC, fzV, AV.one] at e1 ⊢
        rw [e1]
      · have hs := h.stay (H' := H.put q none) fun j hj _ _ => put_ne _ _ (by omega)
        obtain ⟨ys, H', e1, e2⟩ := fz_els (by simp only [put_ro]; omega) hs
        have e3 := fz_ms c.pages (by omega) h5
        refine ⟨_ :: ys, H', ?_, .cons ⟨_, _, rfl, ⟨n, rfl, hn⟩, false, rfl, fun h => by cases h⟩ e2⟩
        have hfz : fzV fzC H (.agg [.int .i64 c.kind, .int .i64 c.a, .int .i64 c.b, .list n (c.text.map byt), .ms q c.pages.length 0 c.pages.length]) = some (.agg [.int .i64 c.kind, .int .i64 c.a, .int .i64 c.b, .list n (c.text.map byt), .list false (ints .i64 c.pages)], H.put q none) := by
          unfold fzC
          rw [fzV]
          simp only [List.getElem?_cons_succ, List.getElem?_cons_zero, fz_list, AV.one, Bool.and_self, if_true, List.set_cons_succ, List.set_cons_zero]
          rw [fzV]
          simp only [List.getElem?_cons_succ, List.getElem?_cons_zero, e3, AV.one, Bool.and_self, if_true, List.set_cons_succ, List.set_cons_zero]
          rw [fzV]
        simp only [fzAll, hfz, e1]

theorem under_cmd {n : Nat} {v : AV} {c : Scr.MC} (h : CmdF v c) : v.under n = true := by
  obtain ⟨t, p, rfl, ⟨m, rfl, _⟩, k, rfl, _⟩ := h
  simp [AV.under, AV.underAll, under_byt, under_ints]
theorem under_cmds {n : Nat} {xs : List AV} {cs : List Scr.MC} (h : All2 CmdF xs cs) : AV.underAll n xs = true := by
  induction h with
  | nil => rfl
  | cons h _ ih => simp only [AV.underAll, under_cmd h, ih, Bool.and_self]

/-- what Decode answers -/
def CmdsF (r : AV) (cs : List Scr.MC) : Prop := ∃ (nl : Bool) (xs : List AV), r = .list nl xs ∧ (nl = true → xs = []) ∧ All2 CmdF xs cs

def loopD : ACode := a198.code.R.R.R.K
def roundD : ACode := loopD.P

/-- at a round's head: what is decoded, what is left -/
structure DI (R id : Nat) (f : Option Bool) (cs : List Scr.MC) (l : List UInt8) (e : Env) (H : Heap) : Prop where
  e3 : e.get 3 = .v (.ptr id 0)
  ro : H.ro = R
  rid : R ≤ id
  lo : id < H.next
  hrd : H.get id = some (.obj [lv f (l.map byt)])
  fresh : Fresh H
  fo : Fo f (l.map byt)
  most : l.length ≤ mostLen
  out : (cs = [] ∧ e.get 4 = .v (.list true [])) ∨ ∃ o xs, e.get 4 = .v (.ms o xs.length 0 xs.length) ∧ H.get o = some (.arr false 5 xs) ∧ id < o ∧ o < H.next ∧ Els H o (id + 1) H.next xs cs ∧ xs ≠ []

theorem els_len {H : Heap} {o lo up : Nat} {xs : List AV} {cs : List Scr.MC} (h : Els H o lo up xs cs) : xs.length = cs.length := by
  induction h with
  | nil => rfl
  | cons _ _ ih => simp [ih]

theorem cmdV_cells {H0 H : Heap} {v : AV} {c : Scr.MC} (h : CmdV H0 H v c) : ∃ cs, v = .agg cs ∧ cs.length = 5 := by
  obtain ⟨t, p, rfl, _⟩ := h
  exact ⟨_, rfl, rfl⟩

theorem roundD_on (hc : Φ 183 = some a183) (ht : Φ 185 = some a185) (h1 : Φ 186 = some a186) (h2 : Φ 187 = some a187) (h2' : Φ 188 = some a188) (h3 : Φ 189 = some a189) (h : Φ 190 = some a190) {R id : Nat} {f : Option Bool} {cs : List Scr.MC} {l l' : List UInt8} {c : Scr.MC} {e : Env} {H : Heap} (hb : cs.length + l.length ≤ 2 ^ 20) (hi : DI R id f cs l e H) (h5 : e.get 5 = .no) (hd : Scr.dec1 l = some (c, l')) :
    Pst (evX Φ roundD e H) (Onw fun e' H' => DI R id f (cs ++ [c]) l' (keepS [3, 4] e') H') fun _ _ _ => False := by
  have hrid := hi.rid; have hlo := hi.lo; have hro := hi.ro
  obtain ⟨v, H1, ev, hv, af⟩ := cmd_ok hc ht h1 h2 h2' h3 h ⟨by omega, hi.hrd⟩ hi.fo hi.most hi.lo (by omega) hi.fresh hd
  obtain ⟨t, p, rfl, htv, hpv⟩ := hv
  have hnx := af.nx
  have hl' := Scr.dec1_len hd
  have hmo : mostLen = 2 ^ 30 := rfl
  rcases hi.out with ⟨rfl, h4⟩ | ⟨o, xs, h4, hg, ho1, ho2, hels, hne⟩
  · simp [roundD, loopD, a198, ACode.R, ACode.K, ACode.P, evX_seq, evX_ops, evX_cond, evX_skip, evX_block, opsS, wantedS, opS, opv, Env.av, Env.sl, Env.get, setDst, hi.e3, allAV, ev, h5, AV.cells, stS, putAt, unAV, h4, part, allParts, mklAV, appS, elemsOf, mostLen, Pst, Onw]
    have hstay : EV (H1.new (.arr false 5 [.agg [.int .i64 c.kind, .int .i64 c.a, .int .i64 c.b, t, p]])) H1.next (id + 1) (H1.new (.arr false 5 [.agg [.int .i64 c.kind, .int .i64 c.a, .int .i64 c.b, t, p]])).next (.agg [.int .i64 c.kind, .int .i64 c.a, .int .i64 c.b, t, p]) c := by
      refine ⟨by rw [new_next]; omega, t, p, rfl, htv, ?_⟩
      rcases hpv with hp | ⟨q, g1, g2, g3, g4⟩
      · exact .inl hp
      · exact .inr ⟨q, by omega, by rw [new_next]; omega, by omega, g3, (new_old _ _ g2).trans g4⟩
    refine ⟨by simp [keepS, Env.get, hi.e3], (new_ro _ _).trans (af.ro.trans hro), hrid, by rw [new_next]; omega, (new_old _ _ (by omega)).trans af.hrd, fun j hj => ?_, af.fo, by have := hi.most; omega, .inr ⟨H1.next, [.agg [.int .i64 c.kind, .int .i64 c.a, .int .i64 c.b, t, p]], by simp [keepS, Env.get], new_get _ _, by omega, by rw [new_next]; omega, .cons hstay (.nil _ _ (Nat.le_refl _)), by simp⟩⟩
    rw [new_next] at hj
    exact (new_ne _ _ (by omega)).trans (af.fresh j (by omega))
  · have hxl := els_len hels
    have hg1 : H1.get o = some (.arr false 5 xs) := (af.fr o ho2 (by omega)).trans hg
    have hor : ¬ o < H1.ro := by rw [af.ro, hro]; omega
    have hmx : xs.length ≤ 1073741823 := by omega
    simp [roundD, loopD, a198, ACode.R, ACode.K, ACode.P, evX_seq, evX_ops, evX_cond, evX_skip, evX_block, opsS, wantedS, opS, opv, Env.av, Env.sl, Env.get, setDst, hi.e3, allAV, ev, h5, AV.cells, stS, putAt, unAV, h4, part, allParts, mklAV, appS, elemsOf, mostLen, hor, hg1, hmx, Pst, Onw]
    have hels1 : Els (H1.put o (some (.arr false 5 (xs ++ [.agg [.int .i64 c.kind, .int .i64 c.a, .int .i64 c.b, t, p]])))) o (id + 1) H.next xs cs := hels.stay fun q g1 g2 g3 => (put_ne _ _ g3).trans (af.fr q g2 (by omega))
    refine ⟨by simp [keepS, Env.get, hi.e3], af.ro.trans hro, hrid, by rw [put_next]; omega, (put_ne _ _ (by omega)).trans af.hrd, fun j hj => ?_, af.fo, by have := hi.most; omega, .inr ⟨o, xs ++ [.agg [.int .i64 c.kind, .int .i64 c.a, .int .i64 c.b, t, p]], by simp [keepS, Env.get], put_get _ _ _, ho1, by rw [put_next]; omega, hels1.snoc ⟨by rw [put_next]; omega, t, p, rfl, htv, ?_⟩, by simp⟩⟩
    · rw [put_next] at hj
      exact (put_ne _ _ (by omega)).trans (af.fresh j (by omega))
    · rcases hpv with hp | ⟨q, g1, g2, g3, g4⟩
      · exact .inl hp
      · exact .inr ⟨q, by omega, by rw [put_next]; exact g2, by omega, g3, (put_ne _ _ (by omega)).trans g4⟩

theorem roundD_end (hc : Φ 183 = some a183) (ht : Φ 185 = some a185) (h1 : Φ 186 = some a186) (h2 : Φ 187 = some a187) (h2' : Φ 188 = some a188) (h3 : Φ 189 = some a189) (h : Φ 190 = some a190) {R id : Nat} {f : Option Bool} {cs : List Scr.MC} {l : List UInt8} {e : Env} {H : Heap} (hi : DI R id f cs l e H) (h5 : e.get 5 = .no) (hd : Scr.dec1 l = none) :
    Pst (evX Φ roundD e H) (fun x e' _ => x = .ret ∧ ∃ r, e'.get 2 = .v r ∧ CmdsF r cs) fun _ _ _ => False := by
  have hrid := hi.rid; have hlo := hi.lo; have hro := hi.ro
  obtain ⟨v, H1, ev, ⟨zs, rfl, hz⟩, l', af⟩ := cmd_no hc ht h1 h2 h2' h3 h ⟨by omega, hi.hrd⟩ hi.fo hi.most hi.lo (by omega) hi.fresh hd
  rcases hi.out with ⟨rfl, h4⟩ | ⟨o, xs, h4, hg, ho1, ho2, hels, hne⟩
  · simp [roundD, loopD, a198, ACode.R, ACode.K, ACode.P, evX_seq, evX_ops, evX_cond, evX_ret, evX_block, opsS, wantedS, opS, opv, Env.av, Env.sl, Env.get, setDst, hi.e3, allAV, ev, h5, AV.cells, hz, stS, putAt, unAV, h4, fzV, Pst]
    exact ⟨true, [], rfl, fun _ => rfl, .nil⟩
  · have hxl := els_len hels
    have hg1 : H1.get o = some (.arr false 5 xs) := (af.fr o ho2 (by omega)).trans hg
    have hor : ¬ o < H1.ro := by rw [af.ro, hro]; omega
    have hels1 : Els (H1.put o none) o (id + 1) H.next xs cs := hels.stay fun q g1 g2 g3 => (put_ne _ _ g3).trans (af.fr q g2 (by omega))
    obtain ⟨ys, H', e1, e2⟩ := fz_els (by rw [put_ro, af.ro]; omega) hels1
    unfold fzC at e1
    have hfz : fzV (.sl (.ag 3 (.sl .no) (.ag 4 (.sl .no) .no))) H1 (.ms o xs.length 0 xs.length) = some (.list false ys, H') := by
      simp [fzV, hor, hg1]
      rw [e1]
    simp [roundD, loopD, a198, ACode.R, ACode.K, ACode.P, evX_seq, evX_ops, evX_cond, evX_ret, evX_block, opsS, wantedS, opS, opv, Env.av, Env.sl, Env.get, setDst, hi.e3, allAV, ev, h5, AV.cells, hz, stS, putAt, unAV, h4, hfz, Pst]
    exact ⟨false, ys, rfl, fun h => (by cases h), e2⟩

theorem loopD_ok (hc : Φ 183 = some a183) (ht : Φ 185 = some a185) (h1 : Φ 186 = some a186) (h2 : Φ 187 = some a187) (h2' : Φ 188 = some a188) (h3 : Φ 189 = some a189) (h : Φ 190 = some a190) {R id : Nat} {f : Option Bool} {b : List UInt8} {e : Env} {H : Heap} (hb : b.length ≤ 2 ^ 20) (hi : DI R id f [] b (keepS [3, 4] e) H) :
    Pst (evX Φ loopD e H) (fun x e' _ => x = .ret ∧ ∃ r, e'.get 2 = .v r ∧ CmdsF r (Scr.dec b)) fun _ _ _ => False := by
  refine pst_loop (k := [3, 4]) (a := roundD) (fun n e H => ∃ cs l, n = l.length ∧ DI R id f cs l e H ∧ e.get 5 = .no ∧ cs.length + l.length ≤ 2 ^ 20 ∧ cs ++ Scr.dec l = Scr.dec b) (fun n e H hI => ?_) _ e H ⟨[], b, rfl, hi, by simp [keepS, Env.get], by simpa using hb, rfl⟩
  obtain ⟨cs, l, rfl, hI, h5, hn, hd⟩ := hI
  cases hdl : Scr.dec1 l with
  | none =>
    rw [Scr.dec_none hdl, List.append_nil] at hd
    refine (roundD_end hc ht h1 h2 h2' h3 h hI h5 hdl).mono (fun x e H hq => ?_) (fun _ _ _ h => h)
    obtain ⟨rfl, r, g1, g2⟩ := hq
    exact ⟨rfl, r, g1, hd ▸ g2⟩
  | some x =>
    obtain ⟨c, l'⟩ := x
    have hlt := Scr.dec1_len hdl
    refine (roundD_on hc ht h1 h2 h2' h3 h hn hI h5 hdl).mono (fun x e H hq => ?_) (fun _ _ _ h => h)
    cases x <;> try exact hq.elim
    exact ⟨_, hlt, cs ++ [c], l', rfl, hq, by simp [keepS, Env.get], by simp; omega, by rw [List.append_assoc, List.singleton_append, ← Scr.dec_some hdl, hd]⟩

/-- what Decode answers, of bytes whatever -/
theorem decode_ok (hc : Φ 183 = some a183) (ht : Φ 185 = some a185) (h1 : Φ 186 = some a186) (h2 : Φ 187 = some a187) (h2' : Φ 188 = some a188) (h3 : Φ 189 = some a189) (h : Φ 190 = some a190) (hD : Φ 198 = some a198) {f : Option Bool} {b : List UInt8} {H : Heap} (hb : b.length ≤ 2 ^ 20) (hf : Fo f (b.map byt)) (hfr : Fresh H) :
    ∃ r, evC Φ 198 [lv f (b.map byt)] H = some (.ret r H) ∧ CmdsF r (Scr.dec b) := by
  have hK : a198.code = .seq a198.code.L (.seq a198.code.R.L (.seq a198.code.R.R.L (.block 0 loopD))) := rfl
  have hmo : mostLen = 2 ^ 30 := rfl
  have key : Pst (evX Φ a198.code (initEnv 0 [lv f (b.map byt)]) (bodyH a198 H)) (fun x e' _ => x = .ret ∧ ∃ r, e'.get 2 = .v r ∧ CmdsF r (Scr.dec b)) fun _ _ _ => False := by
    rw [hK]
    apply pst_seq
    simp [a198, ACode.L, evX_ops, opsS, wantedS, opS, opv, Env.sl, setDst, initEnv, bodyH, pst_go, Nx]
    apply pst_seq
    simp [ACode.R, evX_ops, opsS, wantedS, opS, opv, Env.av, Env.sl, Env.get, setDst, allParts, fillAV, lv_cells, agg_cells, putAt, pst_go, Nx]
    apply pst_seq
    simp [evX_ops, opsS, wantedS, opS, opv, Env.sl, setDst, pst_go, Nx]
    apply pst_block
    refine (loopD_ok (R := H.next) (id := H.next) (f := f) (b := b) hc ht h1 h2 h2' h3 h hb ⟨by simp [keepS, Env.get], rfl, Nat.le_refl _, ?_, ?_, ?_, hf, by omega, .inl ⟨rfl, by simp [keepS, Env.get]⟩⟩).mono (fun x e H hq => ?_) (fun _ _ _ h => h)
    · show H.next < H.next + 1
      omega
    · exact new_get (⟨H.next, H.next, H.get⟩ : Heap) _
    · intro j hj
      have hj' : H.next + 1 ≤ j := hj
      exact (new_ne (⟨H.next, H.next, H.get⟩ : Heap) _ (show j ≠ H.next by omega)).trans (hfr j (by omega))
    · obtain ⟨rfl, hq⟩ := hq
      exact ⟨rfl, hq⟩
  rw [evC_eq hD rfl]
  cases ho : evX Φ a198.code (initEnv 0 [lv f (b.map byt)]) (bodyH a198 H) with
  | none => rw [ho] at key; exact key.elim
  | some o =>
    rw [ho] at key
    rcases o with ⟨x, e, H'⟩ | ⟨w, e, H'⟩
    · obtain ⟨rfl, r, g1, g2⟩ := key
      refine ⟨r, ?_, g2⟩
      have hu : r.under H.next = true := by
        obtain ⟨nl, xs, rfl, _, g3⟩ := g2
        exact under_cmds g3
      have hr : a198.results = [.tmp 2] := rfl
      have hp : a198.pure = true := rfl
      simp [finS, hr, resOf, resS, g1, hp, hu]
    · exact key.elim
end Ey.Sc
