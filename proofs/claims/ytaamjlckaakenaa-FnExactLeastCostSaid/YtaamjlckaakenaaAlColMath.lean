/-
  Ways told from the front and from the end are as many.
-/
import Derived.Test.YtaamjlckaakenaaAlColGuard
namespace Go.AL
set_option linter.unusedSimpArgs false
set_option linter.unusedVariables false
set_option linter.unusedSimpArgs false
set_option linter.unusedVariables false

def sm (f : Nat → Int) : Nat → Int
  | 0 => 0
  | k + 1 => sm f k + f k
theorem sm_congr {f g : Nat → Int} : ∀ {n : Nat}, (∀ k, k < n → f k = g k) → sm f n = sm g n
  | 0, _ => rfl
  | n + 1, h => by unfold sm; rw [sm_congr (fun k hk => h k (by omega)), h n (by omega)]
theorem sm_zero : ∀ {n : Nat}, sm (fun _ => 0) n = 0
  | 0 => rfl
  | n + 1 => by unfold sm; rw [sm_zero]; rfl
theorem sm_add {f g : Nat → Int} : ∀ {n : Nat}, sm (fun k => f k + g k) n = sm f n + sm g n
  | 0 => rfl
  | n + 1 => by unfold sm; rw [sm_add]; omega
theorem sm_mul {f : Nat → Int} {c : Int} : ∀ {n : Nat}, c * sm f n = sm (fun k => c * f k) n
  | 0 => by simp [sm]
  | n + 1 => by unfold sm; rw [Int.mul_add, sm_mul]
theorem sm_mul' {f : Nat → Int} {c : Int} {n : Nat} : sm f n * c = sm (fun k => f k * c) n := by
  rw [Int.mul_comm, sm_mul]; exact sm_congr fun k _ => Int.mul_comm _ _
theorem sm_comm {f : Nat → Nat → Int} {m : Nat} : ∀ {n : Nat}, sm (fun i => sm (fun j => f i j) m) n = sm (fun j => sm (fun i => f i j) n) m
  | 0 => by simp only [sm]; rw [sm_zero]
  | n + 1 => by
    show sm (fun i => sm (fun j => f i j) m) n + sm (fun j => f n j) m = sm (fun j => sm (fun i => f i j) n + f n j) m
    rw [sm_comm, ← sm_add]
theorem sm_cut {f : Nat → Int} {m : Nat} : ∀ {n : Nat}, m ≤ n → (∀ k, m ≤ k → k < n → f k = 0) → sm f n = sm f m
  | 0, h, _ => by rw [show m = 0 by omega]
  | n + 1, h, hz => by
    by_cases hm : m = n + 1
    · rw [hm]
    · unfold sm
      rw [hz n (by omega) (by omega), sm_cut (by omega) (fun k h1 h2 => hz k h1 (by omega)), Int.add_zero]
      cases m <;> rfl
theorem sm_one {f : Nat → Int} {c : Nat} : ∀ {n : Nat}, c < n → (∀ k, k < n → k ≠ c → f k = 0) → sm f n = f c
  | n + 1, h, hz => by
    unfold sm
    by_cases hc : c = n
    · subst hc
      rw [sm_congr (g := fun _ => 0) (fun k hk => hz k (by omega) (by omega)), sm_zero, Int.zero_add]
    · rw [sm_one (by omega) (fun k hk => hz k (by omega)), hz n (by omega) (fun e => hc e.symm), Int.add_zero]

theorem sumW_sm {p : Nat → Bool} {f : Nat → Int} : ∀ {n : Nat}, sumW p f n = sm (fun k => if p k then f k else 0) n
  | 0 => rfl
  | n + 1 => by
    unfold sumW sm; rw [sumW_sm]; split
    · rfl
    · rw [Int.add_zero]
theorem sumN_sm {cnt : Nat → Int} {but : Int} (h : ∀ d, 0 ≤ cnt d) : ∀ {n : Nat}, sumN cnt but n = sm (fun k => if (k : Int) = but then 0 else cnt k) n
  | 0 => rfl
  | n + 1 => by
    have := h n
    unfold sumN sm; rw [sumN_sm h]
    by_cases hb : (n : Int) = but
    · rw [if_neg (fun e => e.1 hb), if_pos hb, Int.add_zero]
    · rw [if_neg hb]
      by_cases h0 : 0 < cnt n
      · rw [if_pos ⟨hb, h0⟩]
      · rw [if_neg (fun e => h0 e.2)]; omega
theorem stepN_sm {cnt : Nat → Int} {j : Nat} (h : ∀ d, 0 ≤ cnt d) : ∀ {n : Nat}, stepN cnt j n = sm (fun k => if k = j then 0 else cnt k) n
  | 0 => rfl
  | n + 1 => by
    have := h n
    unfold stepN sm; rw [stepN_sm h]
    by_cases hb : n = j
    · rw [if_neg (fun e => e.1 hb), if_pos hb, Int.add_zero]
    · rw [if_neg hb]
      by_cases h0 : 0 < cnt n
      · rw [if_pos ⟨hb, h0⟩]
      · rw [if_neg (fun e => h0 e.2)]; omega

abbrev may (T : Nat → Int) (i j : Nat) : Prop := T (i * 5 + j) < 1099511627776

/-- Ways for the last k rows, behind a colour. -/
def bwd (T : Nat → Int) (n : Nat) (but : Int) : Nat → Nat → Int
  | 0 => fun a => if (a : Int) = but then 0 else 1
  | k + 1 => fun a => sm (fun b => if b ≠ a ∧ may T (n - 1 - k) b then bwd T n but k b else 0) 5

theorem cntF_one {T : Nat → Int} {j : Nat} : cntF T 1 j = if may T 0 j then 1 else 0 := by
  show newN 0 _ _ j = _
  unfold newN
  dsimp only
  by_cases h : may T 0 j
  · rw [if_neg (by have : T (0 * 5 + j) < _ := h; omega), if_pos rfl, if_pos h]
  · rw [if_pos (by have : ¬ T (0 * 5 + j) < _ := h; omega), if_neg h]
theorem cntF_succ {T : Nat → Int} {i j : Nat} (hi : 0 < i) (h20 : i ≤ 20) : cntF T (i + 1) j = if may T i j then sm (fun d => if d = j then 0 else cntF T i d) 5 else 0 := by
  show newN i _ _ j = _
  unfold newN
  dsimp only
  by_cases h : may T i j
  · rw [if_neg (by have : T (i * 5 + j) < _ := h; omega), if_neg (by omega), if_pos h, stepN_sm (fun d => (cntF_bound' h20 d).1)]
  · rw [if_pos (by have : ¬ T (i * 5 + j) < _ := h; omega), if_neg h]

theorem fwd_bwd {T : Nat → Int} {n : Nat} {but : Int} (hn : n ≤ 20) : ∀ i, i + 1 ≤ n → sm (fun j => cntF T (i + 1) j * bwd T n but (n - (i + 1)) j) 5 = sm (fun j => if may T 0 j then bwd T n but (n - 1) j else 0) 5
  | 0, hi => by
    apply sm_congr; intro j _
    rw [cntF_one]
    split
    · rw [Int.one_mul]
    · rw [Int.zero_mul]
  | i + 1, hi => by
    rw [← fwd_bwd hn i (by omega)]
    have e : n - (i + 1) = (n - (i + 1 + 1)) + 1 := by omega
    have er : n - 1 - (n - (i + 1 + 1)) = i + 1 := by omega
    rw [e]
    have h1 : sm (fun j => cntF T (i + 1 + 1) j * bwd T n but (n - (i + 1 + 1)) j) 5 = sm (fun j => sm (fun d => if d ≠ j ∧ may T (i + 1) j then cntF T (i + 1) d * bwd T n but (n - (i + 1 + 1)) j else 0) 5) 5 := by
      apply sm_congr; intro j _
      rw [cntF_succ (by omega) (by omega)]
      by_cases hm : may T (i + 1) j
      · rw [if_pos hm, sm_mul']
        apply sm_congr; intro d _
        by_cases hd : d = j
        · rw [if_pos hd, if_neg (fun e => e.1 hd), Int.zero_mul]
        · rw [if_neg hd, if_pos ⟨hd, hm⟩]
      · rw [if_neg hm, Int.zero_mul, sm_congr (g := fun _ => 0) (fun d _ => if_neg (fun e => hm e.2)), sm_zero]
    rw [h1, sm_comm]
    apply sm_congr; intro d _
    show _ = cntF T (i + 1) d * sm (fun b => if b ≠ d ∧ may T (n - 1 - (n - (i + 1 + 1))) b then bwd T n but (n - (i + 1 + 1)) b else 0) 5
    rw [er, sm_mul]
    apply sm_congr; intro j _
    by_cases hm : d ≠ j ∧ may T (i + 1) j
    · rw [if_pos hm, if_pos ⟨fun e => hm.1 e.symm, hm.2⟩]
    · rw [if_neg hm, if_neg (fun e => hm ⟨fun e' => e.1 e'.symm, e.2⟩), Int.mul_zero]

theorem lineN_bwd {T : Nat → Int} {n : Nat} {but : Int} (h1 : 1 ≤ n) (hn : n ≤ 20) : lineN T n but = sm (fun j => if may T 0 j then bwd T n but (n - 1) j else 0) 5 := by
  obtain ⟨i, rfl⟩ : ∃ i, n = i + 1 := ⟨n - 1, by omega⟩
  rw [← fwd_bwd hn i (Nat.le_refl _), Nat.sub_self]
  unfold lineN
  rw [sumN_sm (fun d => (cntF_bound' hn d).1)]
  apply sm_congr; intro j _
  show _ = _ * (if (j : Int) = but then 0 else 1)
  split
  · rw [Int.mul_zero]
  · rw [Int.mul_one]

/-- A table that tells a fence. -/
def Tells (T : Nat → Int) (s : List UInt8) (tn : Nat) : Prop := ∀ i, i < s.length → ∀ b, b < 5 → (may T i b ↔ b < tn ∧ allow s i b = true)

theorem ways_bwd {T : Nat → Int} {s : List UInt8} {tn : Nat} {but : Int} (H : Tells T s tn) (ht : tn ≤ 5) (h1 : 1 ≤ s.length) : ∀ k a, waysF s tn but k a = bwd T s.length but k a
  | 0, a => rfl
  | k + 1, a => by
    show sumW _ (waysF s tn but k) tn = sm _ 5
    rw [sumW_sm, sm_cut (m := tn) (n := 5) ht (fun b hb hb5 => if_neg (fun e => by have := ((H (s.length - 1 - k) (by omega) b hb5).1 e.2).1; omega))]
    apply sm_congr; intro b hb
    rw [ways_bwd H ht h1 k b]
    by_cases hab : b = a
    · subst hab; rw [if_neg (by unfold waysP; simp), if_neg (fun e => e.1 rfl)]
    · have hx := H (s.length - 1 - k) (by omega) b (by omega)
      have hne : ((a : Int) != (b : Int)) = true := by rw [bne_iff_ne]; omega
      by_cases hm : may T (s.length - 1 - k) b
      · rw [if_pos (by unfold waysP; rw [hne, (hx.1 hm).2]; rfl), if_pos ⟨hab, hm⟩]
      · rw [if_neg (fun e => hm (hx.2 ⟨hb, by unfold waysP at e; rw [hne, Bool.true_and] at e; exact e⟩)), if_neg (fun e => hm e.2)]

theorem lineN_ends {T : Nat → Int} {s : List UInt8} {tn : Nat} (H : Tells T s tn) (ht : tn ≤ 5) (h1 : 1 ≤ s.length) (hn : s.length ≤ 20) : lineN T s.length (-1) = endsF s tn 0 (-1) (-1) := by
  rw [lineN_bwd h1 hn]
  unfold endsF
  rw [if_neg (by omega), sumW_sm, sm_cut (m := tn) (n := 5) ht (fun b hb hb5 => if_neg (fun e => by have := ((H 0 (by omega) b hb5).1 e).1; omega))]
  apply sm_congr; intro b hb
  rw [ways_bwd H ht h1, Nat.sub_zero]
  have hx := H 0 (by omega) b (by omega)
  have hne : ((b : Int) != (-1)) = true := by rw [bne_iff_ne]; omega
  by_cases hm : may T 0 b
  · rw [if_pos hm, if_pos (by unfold finP; rw [hne, (hx.1 hm).2]; rfl)]
  · rw [if_neg hm, if_neg (fun e => hm (hx.2 ⟨hb, by unfold finP at e; rw [hne, Bool.true_and] at e; exact e⟩))]

theorem bwd_fix {T : Nat → Int} {n c : Nat} {col but : Int} : ∀ k, k + 1 ≤ n → ∀ a, bwd (fixT T 0 col) n but k a = bwd T n but k a
  | 0, _, a => rfl
  | k + 1, hk, a => by
    show sm _ 5 = sm _ 5
    apply sm_congr; intro b hb
    rw [bwd_fix (c := c) k (by omega) b]
    have : fixT T 0 col ((n - 1 - k) * 5 + b) = T ((n - 1 - k) * 5 + b) := by
      unfold fixT fixP; rw [if_neg (by omega)]
    unfold may
    rw [this]

theorem look_from {T : Nat → Int} {s : List UInt8} {tn : Nat} (H : Tells T s tn) (ht : tn ≤ 5) (h1 : 2 ≤ s.length) (hn : s.length ≤ 20) : lookN T s.length 5 = fromR s tn tn := by
  have hl : ∀ c, c ≤ 5 → lookN T s.length c = sm (fun c => if may T 0 c then bwd T s.length c (s.length - 1) c else 0) c := by
    intro c hc
    induction c with
    | zero => rfl
    | succ c ih =>
      unfold lookN sm
      rw [ih (by omega), lineN_bwd (by omega) hn]
      rw [sm_one (n := 5) (c := c) (f := fun j => if may (fixT T 0 c) 0 j then bwd (fixT T 0 c) s.length c (s.length - 1) j else 0) (by omega)]
      · have e1 : fixT T 0 c (0 * 5 + c) = T (0 * 5 + c) := by unfold fixT fixP; rw [if_neg (by omega)]
        have e2 := bwd_fix (T := T) (n := s.length) (c := c) (col := c) (but := c) (s.length - 1) (by omega) c
        rw [e2]
        unfold may; rw [e1]
      · intro k h5 hk
        refine if_neg (fun e => ?_)
        have h : fixT T 0 c (0 * 5 + k) = 1099511627776 := by unfold fixT fixP; rw [if_pos (by omega)]
        have e' : fixT T 0 c (0 * 5 + k) < 1099511627776 := e
        rw [h] at e'
        exact absurd e' (by decide)
  have hr : ∀ t, t ≤ tn → fromR s tn t = sm (fun t => if allow s 0 t then bwd T s.length t (s.length - 1) t else 0) t := by
    intro t ht'
    induction t with
    | zero => rfl
    | succ t ih =>
      have e : endsF s tn 1 t t = bwd T s.length t (s.length - 1) t := by
        rw [← ways_bwd H ht (by omega)]
        unfold endsF
        rw [if_neg (by omega), show s.length - 1 = (s.length - 1 - 1) + 1 by omega]
        show _ = sumW _ _ tn
        rw [show s.length - 1 - (s.length - 1 - 1) = 1 by omega]
        rw [sumW_sm, sumW_sm]
        apply sm_congr; intro b _
        have : finP s 1 t b = waysP s 1 t b := by
          unfold finP waysP
          rw [show ((b : Int) != (t : Int)) = ((t : Int) != (b : Int)) from bne_comm]
        rw [this]; rfl
      unfold fromR sm
      rw [ih (by omega), e]
      split
      · rfl
      · rw [Int.add_zero]
  rw [hl 5 (Nat.le_refl _), hr tn (Nat.le_refl _), sm_cut (m := tn) (n := 5) ht (fun b hb hb5 => if_neg (fun e => by have := ((H 0 (by omega) b hb5).1 e).1; omega))]
  apply sm_congr; intro b hb
  have hx := H 0 (by omega) b (by omega)
  by_cases hm : may T 0 b
  · rw [if_pos hm, if_pos (hx.1 hm).2]
  · rw [if_neg hm, if_neg (fun e => hm (hx.2 ⟨hb, e⟩))]

theorem cnt_from {T : Nat → Int} {s : List UInt8} {tn : Nat} {around : Bool} (H : Tells T s tn) (ht : tn ≤ 5) (h1 : 1 ≤ s.length) (ha : around = true → 3 ≤ s.length) (hn : s.length ≤ 20) :
    cntT T s.length around = fromF s tn around := by
  unfold cntT fromF
  cases around with
  | true => exact look_from H ht (by have := ha rfl; omega) hn
  | false => exact lineN_ends H ht h1 hn

theorem bare_tells {n t : Nat} : Tells (freeT t) (List.replicate n 46) t := by
  intro i hi b hb
  have hi' : i < n := by simpa using hi
  have ha : allow (List.replicate n 46) i b = true := by
    unfold allow
    rw [List.getElem?_eq_getElem hi]
    simp
  unfold may freeT
  rw [show (i * 5 + b) % 5 = b by omega]
  constructor
  · intro h
    by_cases h2 : t ≤ b
    · rw [if_pos h2] at h; omega
    · exact ⟨by omega, ha⟩
  · intro h; rw [if_neg (by omega)]; decide
theorem cnt_bare {n t : Nat} {around : Bool} (ht : t ≤ 5) (h1 : 1 ≤ n) (ha : around = true → 3 ≤ n) (hn : n ≤ 20) : cntT (freeT t) n around = fromF (List.replicate n 46) t around := by
  have := cnt_from (around := around) (bare_tells (n := n) (t := t)) ht (by simpa using h1) (by simpa using ha) (by simpa using hn)
  simpa using this

end Go.AL
