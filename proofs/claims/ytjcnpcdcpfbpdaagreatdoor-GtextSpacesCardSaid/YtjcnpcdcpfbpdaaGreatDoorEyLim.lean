/- More rounds give the same answer; what a program answers with as many rounds as it needs; the equations of that. -/
import Derived.Test.YtjcnpcdcpfbpdaaGreatDoorEyRun
namespace Ey

def Le (c d : Caller) : Prop := ∀ f a H r, c f a H = some r → d f a H = some r

theorem Le.refl (c : Caller) : Le c c := fun _ _ _ _ h => h

theorem opS_mono {c d : Caller} (h : Le c d) {x : Option Nat} {e : Env} {H : Heap} {op : AOp} {o : Out} (ho : opS c x e H op = some o) :
    opS d x e H op = some o := by
  cases op
  case call f args =>
    simp only [opS] at ho ⊢
    cases hv : allAV e args with
    | none => simp [hv] at ho
    | some vs =>
      simp only [hv] at ho ⊢
      cases hc : c f vs H with
      | none => simp [hc] at ho
      | some r => rw [h _ _ _ _ hc]; rw [hc] at ho; exact ho
  case callc f args cs =>
    simp only [opS] at ho ⊢
    cases hv : allAV e args with
    | none => simp [hv] at ho
    | some vs =>
      simp only [hv] at ho ⊢
      cases hc : c f vs H with
      | none => simp [hc] at ho
      | some r => rw [h _ _ _ _ hc]; rw [hc] at ho; exact ho
  case callv f args =>
    simp only [opS] at ho ⊢
    split at ho
    · rename_i g cap vs h1 h2
      cases hc : c g (vs ++ cap) H with
      | none => simp [hc] at ho
      | some r => rw [h _ _ _ _ hc]; rw [hc] at ho; exact ho
    · simp at ho
  all_goals exact ho

theorem opsS_mono {c d : Caller} (h : Le c d) : ∀ {l : List AInstr} {e : Env} {H : Heap} {o : Out}, opsS c l e H = some o → opsS d l e H = some o
  | [], _, _, _, ho => ho
  | i :: r, e, H, o, ho => by
    simp only [opsS] at ho ⊢
    split at ho
    · simp at ho
    · exact opsS_mono h ho
    · cases hs : opS c i.dst e H i.op with
      | none => simp [hs] at ho
      | some x =>
        rw [opS_mono h hs]; rw [hs] at ho
        cases x with
        | go _ e' H' => exact opsS_mono h ho
        | pan v e' H' => exact ho

theorem loopS_mono {b b' : Env → Heap → Option Out} (h : ∀ e H o, b e H = some o → b' e H = some o) (k : List Nat) :
    ∀ {n m : Nat} {e : Env} {H : Heap} {o : Out}, n ≤ m → loopS b k n e H = some o → loopS b' k m e H = some o
  | 0, _, _, _, _, _, ho => by simp [loopS] at ho
  | n + 1, 0, _, _, _, hn, _ => by omega
  | n + 1, m + 1, e, H, o, hn, ho => by
    simp only [loopS] at ho ⊢
    cases hb : b e H with
    | none => simp [hb] at ho
    | some x =>
      rw [h _ _ _ hb]; rw [hb] at ho
      rcases x with ⟨x, e', H'⟩ | ⟨v, e', H'⟩
      · cases x
        · exact loopS_mono h k (by omega) ho
        · exact ho
        · exact ho
      · exact ho

theorem dfrS_mono {f f' : AV → Heap → Option Out} (h : ∀ v H o, f v H = some o → f' v H = some o) {x : Option Out} {o : Out} (ho : dfrS f x = some o) : dfrS f' x = some o := by
  have back : ∀ {v e' H' o}, backS e' (f v H') = some o → backS e' (f' v H') = some o := fun {v e' H' o} hb => by
    cases hx : f v H' with
    | none => rw [hx] at hb; cases hb
    | some y => rw [h _ _ _ hx]; rw [hx] at hb; exact hb
  rcases x with _ | ⟨q, e', H'⟩ | ⟨v, e', H'⟩
  · cases ho
  · cases q
    · exact back ho
    · cases ho
    · exact back ho
  · exact back ho

theorem exec_mono {c d : Caller} (h : Le c d) {n m : Nat} (hn : n ≤ m) : ∀ {x : ACode} {e : Env} {H : Heap} {o : Out},
    exec n c x e H = some o → exec m d x e H = some o
  | .skip, _, _, _, ho => ho
  | .ops l, _, _, _, ho => opsS_mono h ho
  | .dops l, e, H, o, ho => by
    simp only [exec] at ho ⊢
    cases ha : opsS c l e H with
    | none => simp [ha] at ho
    | some x => rw [opsS_mono h ha]; rw [ha] at ho; exact ho
  | .seq a b, e, H, o, ho => by
    simp only [exec] at ho ⊢
    cases ha : exec n c a e H with
    | none => simp [ha] at ho
    | some x =>
      rw [exec_mono h hn ha]; rw [ha] at ho
      rcases x with ⟨x, e', H'⟩ | ⟨v, e', H'⟩
      · cases x
        · exact exec_mono h hn ho
        · exact ho
        · exact ho
      · exact ho
  | .cond g a b, e, H, o, ho => by
    simp only [exec] at ho ⊢
    split at ho
    · exact exec_mono h hn ho
    · exact exec_mono h hn ho
    · simp at ho
  | .block id a, e, H, o, ho => by
    simp only [exec] at ho ⊢
    cases ha : exec n c a e H with
    | none => simp [ha] at ho
    | some x => rw [exec_mono h hn ha]; rw [ha] at ho; exact ho
  | .loop k a, e, H, o, ho => by
    simp only [exec] at ho ⊢
    exact loopS_mono (fun _ _ _ hb => exec_mono h hn hb) k hn ho
  | .exit _, _, _, _, ho => ho
  | .ret, _, _, _, ho => ho
  | .dfr s f cap rs body clo, e, H, o, ho => by
    simp only [exec] at ho ⊢
    cases hv : allAV e cap with
    | none => rw [hv] at ho; cases ho
    | some cs =>
      rw [hv] at ho
      simp only at ho ⊢
      cases hb : exec n c body ((s, .v (.fn f cs)) :: e) H with
      | none => rw [hb] at ho; cases ho
      | some x =>
        rw [exec_mono h hn hb]
        rw [hb] at ho
        exact dfrS_mono (fun v H' o' h' => exec_mono h hn h') ho

theorem callN_mono (Φ : Nat → Option AFn) : ∀ {n m : Nat}, n ≤ m → Le (callN Φ n) (callN Φ m)
  | 0, _, _ => fun _ _ _ _ h => by simp [callN] at h
  | n + 1, 0, h => by omega
  | n + 1, m + 1, h => fun f a H r hr => by
    have hn : n ≤ m := by omega
    simp only [callN] at hr ⊢
    cases hf : Φ f with
    | none => simp [hf] at hr
    | some af =>
      simp only [hf] at hr ⊢
      split at hr
      · rename_i hl
        rw [if_pos hl]
        cases he : exec n (callN Φ n) af.code (initEnv 0 a) (bodyH af H) with
        | none => simp [he, finS] at hr
        | some o => rw [exec_mono (callN_mono Φ hn) hn he]; rw [he] at hr; exact hr
      · simp at hr

open Classical in
/-- what a call answers, with as many rounds as it needs -/
noncomputable def evC (Φ : Nat → Option AFn) : Caller := fun f a H =>
  if h : ∃ r, ∃ n, callN Φ n f a H = some r then some h.choose else none

theorem evC_iff {Φ : Nat → Option AFn} {f : Nat} {a : List AV} {H : Heap} {r : CRes} : evC Φ f a H = some r ↔ ∃ n, callN Φ n f a H = some r := by
  unfold evC
  constructor
  · intro h
    split at h
    · rename_i hx
      obtain ⟨n, hn⟩ := hx.choose_spec
      simp only [Option.some.injEq] at h
      exact ⟨n, h ▸ hn⟩
    · simp at h
  · rintro ⟨n, hn⟩
    have hx : ∃ r, ∃ n, callN Φ n f a H = some r := ⟨r, n, hn⟩
    rw [dif_pos hx]
    obtain ⟨m, hm⟩ := hx.choose_spec
    have h1 := callN_mono Φ (Nat.le_max_left n m) _ _ _ _ hn
    have h2 := callN_mono Φ (Nat.le_max_right n m) _ _ _ _ hm
    exact (h2.symm.trans h1)

open Classical in
/-- what code answers, with as many rounds as it needs -/
noncomputable def evX (Φ : Nat → Option AFn) (c : ACode) (e : Env) (H : Heap) : Option Out :=
  if h : ∃ o, ∃ n, exec n (callN Φ n) c e H = some o then some h.choose else none

theorem evX_iff {Φ : Nat → Option AFn} {c : ACode} {e : Env} {H : Heap} {o : Out} : evX Φ c e H = some o ↔ ∃ n, exec n (callN Φ n) c e H = some o := by
  unfold evX
  constructor
  · intro h
    split at h
    · rename_i hx
      obtain ⟨n, hn⟩ := hx.choose_spec
      simp only [Option.some.injEq] at h
      exact ⟨n, h ▸ hn⟩
    · simp at h
  · rintro ⟨n, hn⟩
    have hx : ∃ o, ∃ n, exec n (callN Φ n) c e H = some o := ⟨o, n, hn⟩
    rw [dif_pos hx]
    obtain ⟨m, hm⟩ := hx.choose_spec
    have h1 := exec_mono (callN_mono Φ (Nat.le_max_left n m)) (Nat.le_max_left n m) hn
    have h2 := exec_mono (callN_mono Φ (Nat.le_max_right n m)) (Nat.le_max_right n m) hm
    exact (h2.symm.trans h1)

theorem callN_le_evC (Φ : Nat → Option AFn) (n : Nat) : Le (callN Φ n) (evC Φ) := fun _ _ _ _ h => evC_iff.2 ⟨n, h⟩

theorem ext_some {α : Type} {x y : Option α} (h : ∀ a, x = some a ↔ y = some a) : x = y := by
  cases x with
  | none => cases y with
    | none => rfl
    | some b => exact absurd ((h b).2 rfl) (by simp)
  | some a => exact ((h a).1 rfl).symm

section
variable {Φ : Nat → Option AFn}

theorem opS_fin {x : Option Nat} {e : Env} {H : Heap} {op : AOp} {o : Out} (ho : opS (evC Φ) x e H op = some o) : ∃ n, opS (callN Φ n) x e H op = some o := by
  cases op
  case call f args =>
    simp only [opS] at ho ⊢
    cases hv : allAV e args with
    | none => simp [hv] at ho
    | some vs =>
      simp only [hv] at ho ⊢
      cases hc : evC Φ f vs H with
      | none => simp [hc] at ho
      | some r =>
        obtain ⟨n, hn⟩ := evC_iff.1 hc
        exact ⟨n, by rw [hn]; rw [hc] at ho; exact ho⟩
  case callc f args cs =>
    simp only [opS] at ho ⊢
    cases hv : allAV e args with
    | none => simp [hv] at ho
    | some vs =>
      simp only [hv] at ho ⊢
      cases hc : evC Φ f vs H with
      | none => simp [hc] at ho
      | some r =>
        obtain ⟨n, hn⟩ := evC_iff.1 hc
        exact ⟨n, by rw [hn]; rw [hc] at ho; exact ho⟩
  case callv f args =>
    simp only [opS] at ho ⊢
    split at ho
    · rename_i g cap vs h1 h2
      cases hc : evC Φ g (vs ++ cap) H with
      | none => simp [hc] at ho
      | some r =>
        obtain ⟨n, hn⟩ := evC_iff.1 hc
        exact ⟨n, by rw [hn]; rw [hc] at ho; exact ho⟩
    · simp at ho
  all_goals exact ⟨0, ho⟩

theorem opsS_fin : ∀ {l : List AInstr} {e : Env} {H : Heap} {o : Out}, opsS (evC Φ) l e H = some o → ∃ n, opsS (callN Φ n) l e H = some o
  | [], _, _, _, ho => ⟨0, ho⟩
  | i :: r, e, H, o, ho => by
    simp only [opsS] at ho ⊢
    cases hw : wantedS e i.guard with
    | none => simp [hw] at ho
    | some b =>
      cases b
      · simp only [hw] at ho ⊢
        exact opsS_fin ho
      · simp only [hw] at ho ⊢
        cases hs : opS (evC Φ) i.dst e H i.op with
        | none => simp [hs] at ho
        | some x =>
          obtain ⟨n, hn⟩ := opS_fin hs
          rw [hs] at ho
          cases x with
          | go q e' H' =>
            obtain ⟨m, hm⟩ := opsS_fin ho
            refine ⟨max n m, ?_⟩
            rw [opS_mono (callN_mono Φ (Nat.le_max_left n m)) hn]
            exact opsS_mono (callN_mono Φ (Nat.le_max_right n m)) hm
          | pan v e' H' => exact ⟨n, by rw [hn]; exact ho⟩

theorem evX_ops (l : List AInstr) (e : Env) (H : Heap) : evX Φ (.ops l) e H = opsS (evC Φ) l e H :=
  ext_some fun _ => evX_iff.trans ⟨fun ⟨n, hn⟩ => opsS_mono (callN_le_evC Φ n) hn, fun h => opsS_fin h⟩

theorem evX_dops (l : List AInstr) (e : Env) (H : Heap) : evX Φ (.dops l) e H = match opsS (evC Φ) l e H with
    | some (.go _ e' H') => some (.go .nrm e' H')
    | _ => none := by
  refine ext_some fun o => evX_iff.trans ⟨fun ⟨n, hn⟩ => ?_, fun h => ?_⟩
  · simp only [exec] at hn
    cases ha : opsS (callN Φ n) l e H with
    | none => simp [ha] at hn
    | some x => rw [opsS_mono (callN_le_evC Φ n) ha]; rw [ha] at hn; exact hn
  · cases ha : opsS (evC Φ) l e H with
    | none => simp [ha] at h
    | some x =>
      obtain ⟨n, hn⟩ := opsS_fin ha
      exact ⟨n, by simp only [exec]; rw [hn]; rw [ha] at h; exact h⟩

theorem evX_skip (e : Env) (H : Heap) : evX Φ .skip e H = some (.go .nrm e H) :=
  ext_some fun _ => evX_iff.trans ⟨fun ⟨_, hn⟩ => hn, fun h => ⟨0, h⟩⟩
theorem evX_exit (i : Nat) (e : Env) (H : Heap) : evX Φ (.exit i) e H = some (.go (.exit i) e H) :=
  ext_some fun _ => evX_iff.trans ⟨fun ⟨_, hn⟩ => hn, fun h => ⟨0, h⟩⟩
theorem evX_ret (e : Env) (H : Heap) : evX Φ .ret e H = some (.go .ret e H) :=
  ext_some fun _ => evX_iff.trans ⟨fun ⟨_, hn⟩ => hn, fun h => ⟨0, h⟩⟩

theorem exec_max_left {c : ACode} {e : Env} {H : Heap} {o : Out} {n : Nat} (m : Nat) (h : exec n (callN Φ n) c e H = some o) :
    exec (max n m) (callN Φ (max n m)) c e H = some o := exec_mono (callN_mono Φ (Nat.le_max_left n m)) (Nat.le_max_left n m) h
theorem exec_max_right {c : ACode} {e : Env} {H : Heap} {o : Out} {m : Nat} (n : Nat) (h : exec m (callN Φ m) c e H = some o) :
    exec (max n m) (callN Φ (max n m)) c e H = some o := exec_mono (callN_mono Φ (Nat.le_max_right n m)) (Nat.le_max_right n m) h

theorem evX_seq (a b : ACode) (e : Env) (H : Heap) : evX Φ (.seq a b) e H = match evX Φ a e H with
    | some (.go .nrm e' H') => evX Φ b e' H'
    | x => x := by
  refine ext_some fun o => evX_iff.trans ⟨fun ⟨n, hn⟩ => ?_, fun h => ?_⟩
  · simp only [exec] at hn
    cases ha : exec n (callN Φ n) a e H with
    | none => simp [ha] at hn
    | some x =>
      rw [evX_iff.2 ⟨n, ha⟩]; rw [ha] at hn
      rcases x with ⟨x, e', H'⟩ | ⟨v, e', H'⟩
      · cases x
        · exact evX_iff.2 ⟨n, hn⟩
        · exact hn
        · exact hn
      · exact hn
  · cases ha : evX Φ a e H with
    | none => simp [ha] at h
    | some x =>
      obtain ⟨n, hn⟩ := evX_iff.1 ha
      rw [ha] at h
      simp only [exec]
      rcases x with ⟨x, e', H'⟩ | ⟨v, e', H'⟩
      · cases x
        · obtain ⟨m, hm⟩ := evX_iff.1 h
          exact ⟨max n m, by rw [exec_max_left m hn]; exact exec_max_right n hm⟩
        · exact ⟨n, by rw [hn]; exact h⟩
        · exact ⟨n, by rw [hn]; exact h⟩
      · exact ⟨n, by rw [hn]; exact h⟩

theorem evX_dfr (s f : Nat) (cap : List Opd) (rs : Nat) (body clo : ACode) (e : Env) (H : Heap) : evX Φ (.dfr s f cap rs body clo) e H = match allAV e cap with
    | none => none
    | some cs => dfrS (fun v H' => evX Φ clo ((rs, .v v) :: initEnv 0 cs) H') (evX Φ body ((s, .v (.fn f cs)) :: e) H) := by
  refine ext_some fun o => evX_iff.trans ⟨fun ⟨n, hn⟩ => ?_, fun h => ?_⟩
  · simp only [exec] at hn
    cases hv : allAV e cap with
    | none => rw [hv] at hn; cases hn
    | some cs =>
      rw [hv] at hn
      simp only at hn ⊢
      cases hb : exec n (callN Φ n) body ((s, .v (.fn f cs)) :: e) H with
      | none => rw [hb] at hn; cases hn
      | some x =>
        rw [evX_iff.2 ⟨n, hb⟩]
        rw [hb] at hn
        exact dfrS_mono (fun v H' o' h' => evX_iff.2 ⟨n, h'⟩) hn
  · simp only [exec]
    cases hv : allAV e cap with
    | none => rw [hv] at h; cases h
    | some cs =>
      rw [hv] at h
      simp only at h ⊢
      cases hb : evX Φ body ((s, .v (.fn f cs)) :: e) H with
      | none => rw [hb] at h; cases h
      | some x =>
        rw [hb] at h
        obtain ⟨n, hn⟩ := evX_iff.1 hb
        have back : ∀ {v e' H' o}, backS e' (evX Φ clo ((rs, .v v) :: initEnv 0 cs) H') = some o → ∃ m, backS e' (exec m (callN Φ m) clo ((rs, .v v) :: initEnv 0 cs) H') = some o := fun {v e' H' o} hx => by
          cases hc : evX Φ clo ((rs, .v v) :: initEnv 0 cs) H' with
          | none => rw [hc] at hx; cases hx
          | some y =>
            obtain ⟨m, hm⟩ := evX_iff.1 hc
            exact ⟨m, by rw [hm]; rw [hc] at hx; exact hx⟩
        have lift : ∀ {v e' H' o m}, backS e' (exec m (callN Φ m) clo ((rs, .v v) :: initEnv 0 cs) H') = some o → backS e' (exec (max n m) (callN Φ (max n m)) clo ((rs, .v v) :: initEnv 0 cs) H') = some o := fun {v e' H' o m} hx => by
          cases hc : exec m (callN Φ m) clo ((rs, .v v) :: initEnv 0 cs) H' with
          | none => rw [hc] at hx; cases hx
          | some y => rw [exec_max_right n hc]; rw [hc] at hx; exact hx
        rcases x with ⟨q, e', H'⟩ | ⟨v, e', H'⟩
        · cases q
          · obtain ⟨m, hm⟩ := back h
            exact ⟨max n m, by rw [exec_max_left m hn]; exact lift hm⟩
          · cases h
          · obtain ⟨m, hm⟩ := back h
            exact ⟨max n m, by rw [exec_max_left m hn]; exact lift hm⟩
        · obtain ⟨m, hm⟩ := back h
          exact ⟨max n m, by rw [exec_max_left m hn]; exact lift hm⟩

theorem evX_cond (c : Opd) (a b : ACode) (e : Env) (H : Heap) : evX Φ (.cond c a b) e H = match e.av c with
    | some (.bool true) => evX Φ a e H
    | some (.bool false) => evX Φ b e H
    | _ => none := by
  refine ext_some fun o => evX_iff.trans ⟨fun ⟨n, hn⟩ => ?_, fun h => ?_⟩
  · simp only [exec] at hn
    split at hn
    · rename_i hc; rw [hc]; exact evX_iff.2 ⟨n, hn⟩
    · rename_i hc; rw [hc]; exact evX_iff.2 ⟨n, hn⟩
    · simp at hn
  · simp only [exec]
    split at h
    · rename_i hc; rw [hc]; exact evX_iff.1 h
    · rename_i hc; rw [hc]; exact evX_iff.1 h
    · simp at h

theorem evX_block (i : Nat) (a : ACode) (e : Env) (H : Heap) : evX Φ (.block i a) e H = match evX Φ a e H with
    | some (.go (.exit j) e' H') => if j = i then some (.go .nrm e' H') else some (.go (.exit j) e' H')
    | x => x := by
  refine ext_some fun o => evX_iff.trans ⟨fun ⟨n, hn⟩ => ?_, fun h => ?_⟩
  · simp only [exec] at hn
    cases ha : exec n (callN Φ n) a e H with
    | none => simp [ha] at hn
    | some x => rw [evX_iff.2 ⟨n, ha⟩]; rw [ha] at hn; exact hn
  · cases ha : evX Φ a e H with
    | none => simp [ha] at h
    | some x =>
      obtain ⟨n, hn⟩ := evX_iff.1 ha
      rw [ha] at h
      exact ⟨n, by simp only [exec]; rw [hn]; exact h⟩

theorem evX_loop (k : List Nat) (a : ACode) (e : Env) (H : Heap) : evX Φ (.loop k a) e H = match evX Φ a (keepS k e) H with
    | some (.go .nrm e' H') => evX Φ (.loop k a) e' H'
    | x => x := by
  refine ext_some fun o => evX_iff.trans ⟨fun ⟨n, hn⟩ => ?_, fun h => ?_⟩
  · simp only [exec] at hn
    cases n with
    | zero => simp [loopS] at hn
    | succ n =>
      simp only [loopS] at hn
      cases ha : exec (n + 1) (callN Φ (n + 1)) a (keepS k e) H with
      | none => simp [ha] at hn
      | some x =>
        rw [evX_iff.2 ⟨n + 1, ha⟩]; rw [ha] at hn
        rcases x with ⟨x, e', H'⟩ | ⟨v, e', H'⟩
        · cases x
          · refine evX_iff.2 ⟨n + 1, ?_⟩
            simp only [exec]
            exact loopS_mono (fun _ _ _ h => h) k (Nat.le_succ n) hn
          · exact hn
          · exact hn
        · exact hn
  · cases ha : evX Φ a (keepS k e) H with
    | none => simp [ha] at h
    | some x =>
      obtain ⟨n, hn⟩ := evX_iff.1 ha
      rw [ha] at h
      rcases x with ⟨x, e', H'⟩ | ⟨v, e', H'⟩
      · cases x
        · obtain ⟨m, hm⟩ := evX_iff.1 h
          simp only [exec] at hm ⊢
          refine ⟨max n m + 1, ?_⟩
          simp only [loopS]
          rw [exec_mono (callN_mono Φ (Nat.le_succ_of_le (Nat.le_max_left n m))) (Nat.le_succ_of_le (Nat.le_max_left n m)) hn]
          exact loopS_mono (fun _ _ _ hb => exec_mono (callN_mono Φ (Nat.le_succ_of_le (Nat.le_max_right n m))) (Nat.le_succ_of_le (Nat.le_max_right n m)) hb) k (Nat.le_max_right n m) hm
        · exact ⟨n + 1, by simp only [exec, loopS]; rw [exec_mono (callN_mono Φ (Nat.le_succ n)) (Nat.le_succ n) hn]; exact h⟩
        · exact ⟨n + 1, by simp only [exec, loopS]; rw [exec_mono (callN_mono Φ (Nat.le_succ n)) (Nat.le_succ n) hn]; exact h⟩
      · exact ⟨n + 1, by simp only [exec, loopS]; rw [exec_mono (callN_mono Φ (Nat.le_succ n)) (Nat.le_succ n) hn]; exact h⟩

theorem evC_eq {f : Nat} {af : AFn} (hf : Φ f = some af) {a : List AV} (ha : a.length = af.params) (H : Heap) :
    evC Φ f a H = finS af H (evX Φ af.code (initEnv 0 a) (bodyH af H)) := by
  refine ext_some fun r => evC_iff.trans ⟨fun ⟨n, hn⟩ => ?_, fun h => ?_⟩
  · cases n with
    | zero => simp [callN] at hn
    | succ n =>
      simp only [callN, hf, if_pos ha] at hn
      cases he : exec n (callN Φ n) af.code (initEnv 0 a) (bodyH af H) with
      | none => simp [he, finS] at hn
      | some o => rw [evX_iff.2 ⟨n, he⟩]; rw [he] at hn; exact hn
  · cases he : evX Φ af.code (initEnv 0 a) (bodyH af H) with
    | none => simp [he, finS] at h
    | some o =>
      obtain ⟨n, hn⟩ := evX_iff.1 he
      refine ⟨n + 1, ?_⟩
      simp only [callN, hf, if_pos ha]
      rw [hn]; rw [he] at h; exact h

/-- a loop, by what holds at each round's head: n rounds, and a last one that leaves -/
theorem evX_rounds {k : List Nat} {a : ACode} (E : Nat → Env) (M : Nat → Heap) (n : Nat) {o : Out}
    (e : Env) (h0 : keepS k e = E 0) (hr : ∀ i, i < n → ∃ e', evX Φ a (E i) (M i) = some (.go .nrm e' (M (i + 1))) ∧ keepS k e' = E (i + 1))
    (hl : evX Φ a (E n) (M n) = some o) (hx : ∀ e H, o ≠ .go .nrm e H) : evX Φ (.loop k a) e (M 0) = some o := by
  have key : ∀ d i e, i + d = n → keepS k e = E i → evX Φ (.loop k a) e (M i) = some o := by
    intro d
    induction d with
    | zero =>
      intro i e hi he
      obtain rfl : i = n := by omega
      rw [evX_loop, he, hl]
      rcases o with ⟨x, e', H'⟩ | ⟨v, e', H'⟩
      · cases x
        · exact absurd rfl (hx e' H')
        · rfl
        · rfl
      · rfl
    | succ d ih =>
      intro i e hi he
      obtain ⟨e', h1, h2⟩ := hr i (by omega)
      rw [evX_loop, he, h1]
      exact ih (i + 1) e' (by omega) h2
  exact key n 0 e (by omega) h0
end
end Ey
