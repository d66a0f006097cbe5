/- Commands and their bytes, in plain lists: what bytes say, which bytes say a command, and the laws between the two. No program stands here. -/
namespace Ey.Scr

structure MC where
  kind : Int
  a : Int
  b : Int
  text : List UInt8
  pages : List Int
  deriving DecidableEq

def u8 (n : Int) : UInt8 := UInt8.ofNat (n % 256).toNat
def i8 (x : UInt8) : Int := x.toNat

theorem u8_i8 (x : UInt8) : u8 (i8 x) = x := by
  unfold u8 i8
  have := x.toNat_lt
  rw [show ((x.toNat : Int) % 256) = x.toNat by omega]
  simp
theorem i8_u8 {n : Int} (h : 0 ≤ n) (h' : n < 256) : i8 (u8 n) = n := by
  unfold u8 i8
  rw [show (n % 256) = n by omega, UInt8.toNat_ofNat']
  omega
theorem i8_nonneg (x : UInt8) : 0 ≤ i8 x := by unfold i8; omega
theorem i8_lt (x : UInt8) : i8 x < 256 := by have := x.toNat_lt; unfold i8; omega

/-- two bytes, a place -/
def place : List UInt8 → Option (Int × List UInt8)
  | x :: y :: r => some (i8 x * 256 + i8 y, r)
  | _ => none
/-- a number of bytes, and them -/
def lst : List UInt8 → Option (List UInt8 × List UInt8)
  | n :: r => if r.length < n.toNat then none else some (r.take n.toNat, r.drop n.toNat)
  | [] => none

def one (k : Int) : Bool := decide (1 ≤ k) && decide (k ≤ 7)
def two (k : Int) : Bool := (decide (1 ≤ k) && decide (k ≤ 3)) || decide (k = 7)
def lng (k : Int) : Bool := decide (k = 7) || decide (k = 9)

def plc (w : Bool) (r : List UInt8) : Option (Int × List UInt8) := if w then place r else some (0, r)
def lsc (w : Bool) (r : List UInt8) : Option (List UInt8 × List UInt8) := if w then lst r else some ([], r)

/-- the first command of bytes, and the rest -/
def dec1 : List UInt8 → Option (MC × List UInt8)
  | [] => none
  | k :: r0 =>
    let kind := i8 k % 10 + 1
    match plc (one kind) r0 with
    | none => none
    | some (a, r1) => match plc (two kind) r1 with
      | none => none
      | some (b, r2) => match lsc (lng kind) r2 with
        | none => none
        | some (l, r3) => some (⟨kind, a, b, if kind = 7 then l else [], if kind = 9 then l.map i8 else []⟩, r3)

theorem place_len {b r : List UInt8} {a : Int} (h : place b = some (a, r)) : b.length = r.length + 2 := by
  unfold place at h
  split at h
  · simp only [Option.some.injEq, Prod.mk.injEq] at h
    obtain ⟨_, rfl⟩ := h
    simp
  · cases h
theorem plc_len {w : Bool} {b r : List UInt8} {a : Int} (h : plc w b = some (a, r)) : b.length = r.length + (if w then 2 else 0) := by
  unfold plc at h
  cases w
  · simp at h; simp [h.2]
  · simp at h; simpa using place_len h
theorem lst_len {b l r : List UInt8} (h : lst b = some (l, r)) : b.length = r.length + l.length + 1 := by
  unfold lst at h
  split at h
  · split at h
    · cases h
    · simp only [Option.some.injEq, Prod.mk.injEq] at h
      obtain ⟨rfl, rfl⟩ := h
      simp; omega
  · cases h
theorem lsc_len {w : Bool} {b l r : List UInt8} (h : lsc w b = some (l, r)) : b.length = r.length + (if w then l.length + 1 else 0) := by
  unfold lsc at h
  cases w
  · simp at h; simp [h.2]
  · simp at h; have := lst_len h; simp; omega

theorem dec1_len {b r : List UInt8} {c : MC} (h : dec1 b = some (c, r)) : r.length < b.length := by
  unfold dec1 at h
  split at h
  · cases h
  · simp only at h
    split at h
    · cases h
    · rename_i h1
      split at h
      · cases h
      · rename_i h2
        split at h
        · cases h
        · rename_i h3
          simp only [Option.some.injEq, Prod.mk.injEq] at h
          obtain ⟨_, rfl⟩ := h
          have := plc_len h1; have := plc_len h2; have := lsc_len h3
          simp only [List.length_cons]; omega

/-- all commands of bytes -/
def dec (b : List UInt8) : List MC :=
  match _h : dec1 b with
  | none => []
  | some (c, r) => c :: dec r
  termination_by b.length
  decreasing_by exact dec1_len _h

theorem dec_none {b : List UInt8} (h : dec1 b = none) : dec b = [] := by
  rw [dec]; split
  · rfl
  · rename_i h'; rw [h] at h'; cases h'
theorem dec_some {b r : List UInt8} {c : MC} (h : dec1 b = some (c, r)) : dec b = c :: dec r := by
  rw [dec]; split
  · rename_i h'; rw [h] at h'; cases h'
  · rename_i h'; rw [h] at h'; simp only [Option.some.injEq, Prod.mk.injEq] at h'; obtain ⟨rfl, rfl⟩ := h'; rfl

def plb (w : Bool) (a : Int) : List UInt8 := if w then [u8 (a / 256), u8 a] else []
def lsb (c : MC) : List UInt8 := if c.kind = 7 then u8 c.text.length :: c.text else if c.kind = 9 then u8 c.pages.length :: c.pages.map u8 else []
/-- a command's bytes -/
def put (c : MC) : List UInt8 := u8 (c.kind - 1) :: (plb (one c.kind) c.a ++ (plb (two c.kind) c.b ++ lsb c))

def enc1 (c : MC) : List UInt8 := if 255 < max c.text.length c.pages.length then [] else if dec (put c) = [c] then put c else []
def enc (l : List MC) : List UInt8 := l.flatMap enc1

/-- commands that bytes say -/
structure Ok (c : MC) : Prop where
  lo : 1 ≤ c.kind
  hi : c.kind ≤ 10
  a : if one c.kind then 0 ≤ c.a ∧ c.a < 65536 else c.a = 0
  b : if two c.kind then 0 ≤ c.b ∧ c.b < 65536 else c.b = 0
  text : if c.kind = 7 then c.text.length < 256 else c.text = []
  pages : if c.kind = 9 then c.pages.length < 256 ∧ ∀ x ∈ c.pages, 0 ≤ x ∧ x < 256 else c.pages = []

theorem plc_ok {w : Bool} {b r : List UInt8} {a : Int} (h : plc w b = some (a, r)) : (if w then 0 ≤ a ∧ a < 65536 else a = 0) ∧ b = plb w a ++ r := by
  unfold plc at h
  unfold plb
  cases w
  · simp only [Bool.false_eq_true, if_false, Option.some.injEq, Prod.mk.injEq] at h ⊢
    obtain ⟨rfl, rfl⟩ := h
    exact ⟨rfl, rfl⟩
  · simp only [if_true] at h ⊢
    unfold place at h
    split at h
    · rename_i x y _
      simp only [Option.some.injEq, Prod.mk.injEq] at h
      obtain ⟨rfl, rfl⟩ := h
      have := i8_nonneg x; have := i8_lt x; have := i8_nonneg y; have := i8_lt y
      refine ⟨by omega, ?_⟩
      rw [show (i8 x * 256 + i8 y) / 256 = i8 x by omega, u8_i8]
      have : u8 (i8 x * 256 + i8 y) = u8 (i8 y) := by unfold u8; rw [show (i8 x * 256 + i8 y) % 256 = i8 y % 256 by omega]
      rw [this, u8_i8]; rfl
    · cases h
theorem plc_put {w : Bool} {a : Int} (h : if w then 0 ≤ a ∧ a < 65536 else a = 0) (r : List UInt8) : plc w (plb w a ++ r) = some (a, r) := by
  unfold plc plb
  cases w
  · simp only [Bool.false_eq_true, if_false] at h ⊢; rw [h]; rfl
  · simp only [if_true] at h ⊢
    show some (i8 (u8 (a / 256)) * 256 + i8 (u8 a), r) = _
    have e : u8 a = u8 (a % 256) := by unfold u8; rw [show a % 256 % 256 = a % 256 by omega]
    rw [i8_u8 (by omega) (by omega), e, i8_u8 (by omega) (by omega), show a / 256 * 256 + a % 256 = a by omega]

theorem lst_ok {b l r : List UInt8} (h : lst b = some (l, r)) : l.length < 256 ∧ b = u8 l.length :: (l ++ r) := by
  unfold lst at h
  split at h
  · rename_i n t
    split at h
    · cases h
    · simp only [Option.some.injEq, Prod.mk.injEq] at h
      obtain ⟨rfl, rfl⟩ := h
      have := n.toNat_lt
      have hl : (t.take n.toNat).length = n.toNat := by simp; omega
      refine ⟨by omega, ?_⟩
      rw [hl, List.take_append_drop]
      have := u8_i8 n
      unfold i8 at this
      rw [this]
  · cases h
theorem lst_put {l : List UInt8} (h : l.length < 256) (r : List UInt8) : lst (u8 l.length :: (l ++ r)) = some (l, r) := by
  have : (u8 (l.length : Int)).toNat = l.length := by
    have := i8_u8 (n := l.length) (by omega) (by omega)
    unfold i8 at this
    omega
  simp only [lst, this]
  rw [if_neg (by simp)]
  simp

theorem map_u8_i8 (l : List UInt8) : (l.map i8).map u8 = l := by
  induction l with
  | nil => rfl
  | cons x l ih => simp only [List.map_cons, u8_i8, ih]
theorem map_i8_u8 {l : List Int} (h : ∀ x ∈ l, 0 ≤ x ∧ x < 256) : (l.map u8).map i8 = l := by
  induction l with
  | nil => rfl
  | cons x l ih =>
    have := h x (by simp)
    simp only [List.map_cons, i8_u8 this.1 this.2]
    rw [ih (fun y hy => h y (by simp [hy]))]

theorem dec1_ok {b r : List UInt8} {c : MC} (h : dec1 b = some (c, r)) : Ok c ∧ ∃ k, b = k :: (plb (one c.kind) c.a ++ (plb (two c.kind) c.b ++ (lsb c ++ r))) ∧ c.kind = i8 k % 10 + 1 := by
  unfold dec1 at h
  split at h
  · cases h
  · rename_i k r0
    simp only at h
    split at h
    · cases h
    · rename_i a r1 h1
      split at h
      · cases h
      · rename_i b2 r2 h2
        split at h
        · cases h
        · rename_i l r3 h3
          simp only [Option.some.injEq, Prod.mk.injEq] at h
          obtain ⟨rfl, rfl⟩ := h
          obtain ⟨ha, e1⟩ := plc_ok h1
          obtain ⟨hb, e2⟩ := plc_ok h2
          have := i8_nonneg k
          have hl : (lng (i8 k % 10 + 1) = true → l.length < 256 ∧ r2 = u8 l.length :: (l ++ r3)) ∧ (lng (i8 k % 10 + 1) = false → l = [] ∧ r2 = r3) := by
            unfold lsc at h3
            refine ⟨fun h => ?_, fun h => ?_⟩
            · rw [h] at h3; exact lst_ok (by simpa using h3)
            · rw [h] at h3; simp at h3; exact ⟨h3.1.symm ▸ rfl, h3.2⟩
          refine ⟨⟨by show 1 ≤ i8 k % 10 + 1; omega, by show i8 k % 10 + 1 ≤ 10; omega, ha, hb, ?_, ?_⟩, k, ?_, rfl⟩
          · by_cases h7 : i8 k % 10 + 1 = 7
            · simp only [h7, if_true]; exact (hl.1 (by simp [lng, h7])).1
            · simp only [h7, if_false]
          · by_cases h9 : i8 k % 10 + 1 = 9
            · simp only [h9, if_true, List.length_map]
              refine ⟨(hl.1 (by simp [lng, h9])).1, fun x hx => ?_⟩
              obtain ⟨y, _, rfl⟩ := List.mem_map.1 hx
              exact ⟨i8_nonneg y, i8_lt y⟩
            · simp only [h9, if_false]
          · show k :: r0 = k :: _
            rw [e1, e2]
            have : r2 = lsb ⟨i8 k % 10 + 1, a, b2, if i8 k % 10 + 1 = 7 then l else [], if i8 k % 10 + 1 = 9 then l.map i8 else []⟩ ++ r3 := by
              unfold lsb
              by_cases h7 : i8 k % 10 + 1 = 7
              · simp only [h7, if_true]
                exact (hl.1 (by simp [lng, h7])).2
              · by_cases h9 : i8 k % 10 + 1 = 9
                · simp only [h9, if_true, List.length_map, map_u8_i8]
                  exact (hl.1 (by simp [lng, h9])).2
                · simp only [h7, h9, if_false]
                  exact (hl.2 (by simp [lng, h7, h9])).2
            rw [← this]

theorem put_dec1 {c : MC} (h : Ok c) (r : List UInt8) : dec1 (put c ++ r) = some (c, r) := by
  obtain ⟨kind, a, b, text, pages⟩ := c
  have hk : i8 (u8 (kind - 1)) % 10 + 1 = kind := by
    have h1 := h.lo; have h2 := h.hi
    simp only at h1 h2
    rw [i8_u8 (by omega) (by omega)]; omega
  have ha := h.a; have hb := h.b; have ht := h.text; have hp := h.pages
  simp only at ha hb ht hp
  simp only [put, List.cons_append, dec1, hk, List.append_assoc]
  rw [plc_put ha]
  simp only
  rw [plc_put hb]
  simp only
  by_cases h7 : kind = 7
  · subst h7
    simp only [if_true] at ht
    have hp' : pages = [] := by simpa using hp
    subst hp'
    have hl := lst_put ht r
    simp only [lsc, lng, lsb, if_true, decide_true, Bool.true_or, List.cons_append, hl]
    simp
  · by_cases h9 : kind = 9
    · subst h9
      simp only [if_true] at hp
      have ht' : text = [] := by simpa using ht
      subst ht'
      have hl := lst_put (l := pages.map u8) (by simpa using hp.1) r
      rw [List.length_map] at hl
      have e : lsb ⟨9, a, b, [], pages⟩ = u8 pages.length :: pages.map u8 := rfl
      have e2 : lsc (lng 9) (u8 pages.length :: (pages.map u8 ++ r)) = some (pages.map u8, r) := hl
      rw [e, List.cons_append, e2]
      simp only [map_i8_u8 hp.2, if_true]
      rfl
    · have ht' : text = [] := by simpa [h7] using ht
      have hp' : pages = [] := by simpa [h9] using hp
      subst ht'; subst hp'
      simp [lsc, lng, lsb, h7, h9]

theorem dec_nil : dec [] = [] := dec_none rfl
theorem dec_put {c : MC} (h : Ok c) (r : List UInt8) : dec (put c ++ r) = c :: dec r := dec_some (put_dec1 h r)

theorem dec_mem : ∀ {n : Nat} {b : List UInt8}, b.length ≤ n → ∀ c ∈ dec b, Ok c
  | n, b, hn, c, hc => by
    cases h : dec1 b with
    | none => rw [dec_none h] at hc; cases hc
    | some x =>
      obtain ⟨c', r⟩ := x
      rw [dec_some h] at hc
      have hl := dec1_len h
      rcases List.mem_cons.1 hc with rfl | hc
      · exact (dec1_ok h).1
      · cases n with
        | zero => omega
        | succ n => exact dec_mem (n := n) (by omega) c hc
theorem dec_all {b : List UInt8} {c : MC} (h : c ∈ dec b) : Ok c := dec_mem (Nat.le_refl _) c h

theorem put_len (c : MC) : (put c).length = 1 + ((plb (one c.kind) c.a).length + ((plb (two c.kind) c.b).length + (lsb c).length)) := by simp [put]; omega

/-- a command's bytes are nothing unless it is one that bytes say -/
theorem enc1_ok {c : MC} (h : Ok c) : enc1 c = put c := by
  have h1 : ¬ 255 < max c.text.length c.pages.length := by
    have ht := h.text; have hp := h.pages
    have a : c.text.length < 256 := by
      split at ht
      · exact ht
      · rw [ht]; simp
    have b : c.pages.length < 256 := by
      split at hp
      · exact hp.1
      · rw [hp]; simp
    omega
  have h2 : dec (put c) = [c] := by
    have := dec_put h []
    rw [List.append_nil, dec_nil] at this
    exact this
  simp only [enc1, if_neg h1, if_pos h2]
theorem enc1_no {c : MC} (h : ¬ Ok c) : enc1 c = [] := by
  unfold enc1
  split
  · rfl
  · split
    · rename_i h2
      exact absurd (dec_all (b := put c) (by rw [h2]; simp)) h
    · rfl

open Classical in
/-- THE LAW OF ScriptLeft -/
theorem left (c : MC) : enc [c] ≠ [] ↔ Ok c := by
  simp only [enc, List.flatMap_cons, List.flatMap_nil, List.append_nil]
  by_cases h : Ok c
  · simp [enc1_ok h, h, put]
  · simp [enc1_no h, h]

theorem enc_ok : ∀ {l : List MC}, (∀ c ∈ l, Ok c) → enc l = l.flatMap put
  | [], _ => rfl
  | c :: l, h => by
    have := enc_ok (l := l) (fun x hx => h x (by simp [hx]))
    simp only [enc, List.flatMap_cons] at this ⊢
    rw [this, enc1_ok (h c (by simp))]
theorem dec_puts : ∀ {l : List MC}, (∀ c ∈ l, Ok c) → ∀ r, dec (l.flatMap put ++ r) = l ++ dec r
  | [], _, r => by simp
  | c :: l, h, r => by
    rw [List.flatMap_cons, List.append_assoc, dec_put (h c (by simp)), dec_puts (fun x hx => h x (by simp [hx]))]; rfl
theorem dec_enc {l : List MC} (h : ∀ c ∈ l, Ok c) : dec (enc l) = l := by
  have := dec_puts h []
  rw [List.append_nil, dec_nil, List.append_nil] at this
  rw [enc_ok h, this]
theorem enc_len : ∀ {n : Nat} {b : List UInt8}, b.length ≤ n → (enc (dec b)).length ≤ b.length
  | n, b, hn => by
    cases h : dec1 b with
    | none => rw [dec_none h]; simp [enc]
    | some x =>
      obtain ⟨c, r⟩ := x
      rw [dec_some h]
      have hl := dec1_len h
      obtain ⟨hc, k, hb, _⟩ := dec1_ok h
      cases n with
      | zero => omega
      | succ n =>
        have ih := enc_len (n := n) (b := r) (by omega)
        have : enc (c :: dec r) = put c ++ enc (dec r) := by simp only [enc, List.flatMap_cons, enc1_ok hc]
        rw [this, List.length_append, put_len]
        have hb' := congrArg List.length hb
        simp at hb'
        omega
/-- THE LAW OF ScriptBack -/
theorem back (b : List UInt8) : dec (enc (dec b)) = dec b ∧ (enc (dec b)).length ≤ b.length :=
  ⟨dec_enc (fun _ h => dec_all h), enc_len (Nat.le_refl _)⟩

/-! ### parts -/
open Classical in
theorem enc_filter (l : List MC) : enc l = (l.filter fun c => decide (Ok c)).flatMap put := by
  induction l with
  | nil => rfl
  | cons c l ih =>
    simp only [enc, List.flatMap_cons] at ih ⊢
    by_cases h : Ok c
    · simp [enc1_ok h, h, ih]
    · simp [enc1_no h, h, ih]
open Classical in
theorem filt_ok (l : List MC) : ∀ c ∈ l.filter (fun c => decide (Ok c)), Ok c := fun c hc => by simpa using (List.mem_filter.1 hc).2

theorem enc_append (a b : List MC) : enc (a ++ b) = enc a ++ enc b := by simp [enc]
theorem dec_two (a b : List MC) : dec (enc a ++ enc b) = dec (enc a) ++ dec (enc b) := by
  rw [enc_filter a, dec_puts (filt_ok a)]
  have := dec_puts (filt_ok a) []
  rw [List.append_nil, dec_nil, List.append_nil] at this
  rw [this]

theorem plc_app {w : Bool} {b r : List UInt8} {a : Int} (h : plc w b = some (a, r)) (s : List UInt8) : plc w (b ++ s) = some (a, r ++ s) := by
  unfold plc at h ⊢
  cases w
  · simp at h ⊢; exact ⟨h.1, by rw [h.2]⟩
  · simp only [if_true] at h ⊢
    unfold place at h
    split at h
    · simp only [Option.some.injEq, Prod.mk.injEq] at h
      obtain ⟨rfl, rfl⟩ := h
      rfl
    · cases h
theorem lsc_app {w : Bool} {b l r : List UInt8} (h : lsc w b = some (l, r)) (s : List UInt8) : lsc w (b ++ s) = some (l, r ++ s) := by
  unfold lsc at h ⊢
  cases w
  · simp at h ⊢; exact ⟨h.1, by rw [h.2]⟩
  · simp only [if_true] at h ⊢
    obtain ⟨h1, rfl⟩ := lst_ok h
    have := lst_put h1 (r ++ s)
    simpa using this
theorem dec1_app {b r : List UInt8} {c : MC} (h : dec1 b = some (c, r)) (s : List UInt8) : dec1 (b ++ s) = some (c, r ++ s) := by
  unfold dec1 at h
  split at h
  · cases h
  · simp only at h
    split at h
    · cases h
    · rename_i h1
      split at h
      · cases h
      · rename_i h2
        split at h
        · cases h
        · rename_i h3
          simp only [Option.some.injEq, Prod.mk.injEq] at h
          obtain ⟨rfl, rfl⟩ := h
          simp only [List.cons_append, dec1, plc_app h1, plc_app h2, lsc_app h3]

theorem cut : ∀ {l : List MC}, (∀ c ∈ l, Ok c) → ∀ k, k < (l.flatMap put).length → (dec ((l.flatMap put).take k)).length < l.length
  | [], _, k, h => by simp at h
  | c :: l, h, k, hk => by
    have hc := h c (by simp)
    rw [List.flatMap_cons] at hk ⊢
    by_cases hp : k < (put c).length
    · rw [List.take_append_of_le_length (by omega)]
      have : dec1 ((put c).take k) = none := by
        cases h1 : dec1 ((put c).take k) with
        | none => rfl
        | some x =>
          obtain ⟨c', r⟩ := x
          have h2 := dec1_app h1 ((put c).drop k)
          have h3 := put_dec1 hc []
          rw [List.take_append_drop] at h2
          rw [List.append_nil, h2] at h3
          simp at h3
          omega
      rw [dec_none this]; simp
    · rw [List.length_append] at hk
      have e : (put c ++ l.flatMap put).take k = put c ++ (l.flatMap put).take (k - (put c).length) := by
        rw [List.take_append]
        rw [List.take_of_length_le (by omega)]
      rw [e, dec_put hc]
      have := cut (l := l) (fun x hx => h x (by simp [hx])) (k - (put c).length) (by omega)
      simp only [List.length_cons]; omega
/-- THE LAW OF ScriptParts, of what is cut -/
theorem cut_enc (a : List MC) {k : Nat} (h : k < (enc a).length) : (dec ((enc a).take k)).length < (dec (enc a)).length := by
  rw [enc_filter] at h ⊢
  have := cut (filt_ok a) k h
  have e := dec_puts (filt_ok a) []
  rw [List.append_nil, dec_nil, List.append_nil] at e
  rw [e]
  exact this
end Ey.Scr
