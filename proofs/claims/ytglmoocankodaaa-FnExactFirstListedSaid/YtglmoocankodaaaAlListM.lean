/-
  Sums over lists of colours are sums over colours.
-/
import Derived.Test.YtglmoocankodaaaAlListT
import Derived.Test.YtglmoocankodaaaAlColPre
namespace Go.AL
set_option linter.unusedSimpArgs false
set_option linter.unusedVariables false
set_option linter.unusedSimpArgs false
set_option linter.unusedVariables false

theorem inc_lt {l : List UInt8} (h : incB l = true) {k : Nat} : ∀ j, k < j → j < l.length → chr l k < chr l j
  | 0, hk, _ => by omega
  | j + 1, hk, hj => by
    have h1 := (okC_spec (inc_at h hj)).2
    rcases h1 with h1 | h1
    · omega
    · rw [show j + 1 - 1 = j by omega] at h1
      by_cases hkj : k = j
      · rw [hkj]; exact h1
      · have h2 := inc_lt h (k := k) j (by omega) (by omega)
        omega

def pS (l : List UInt8) (W : Nat → Int) (a : Nat) : Nat → Int
  | 0 => 0
  | j + 1 => if (a : Int) ≠ chr l j - 97 then pS l W a j + W (chr l j - 97).toNat else pS l W a j
def hasC (l : List UInt8) (j b : Nat) : Bool := (List.range j).any fun k => chr l k == 97 + (b : Int)

theorem hasC_succ {l : List UInt8} {j b : Nat} : hasC l (j + 1) b = (hasC l j b || chr l j == 97 + (b : Int)) := by
  unfold hasC; rw [List.range_succ, List.any_append]; simp
theorem pS_sum {l : List UInt8} {W : Nat → Int} {a : Nat} (h : incB l = true) : ∀ j, j ≤ l.length → pS l W a j = sm (fun b => if b ≠ a ∧ hasC l j b = true then W b else 0) 5
  | 0, _ => by
    rw [sm_congr (g := fun _ => 0) (fun b _ => if_neg (fun h => by simp [hasC] at h)), sm_zero]; rfl
  | j + 1, hj => by
    have ih := pS_sum (W := W) (a := a) h j (by omega)
    obtain ⟨⟨g1, g2⟩, _⟩ := okC_spec (inc_at h (show j < l.length by omega))
    obtain ⟨c, hc⟩ := Int.eq_ofNat_of_zero_le (show 0 ≤ chr l j - 97 by omega)
    have hc5 : c < 5 := by omega
    have hcn : chr l j = 97 + (c : Int) := by omega
    have hno : hasC l j c = false := by
      cases hh : hasC l j c with
      | false => rfl
      | true =>
        unfold hasC at hh
        obtain ⟨k, hk, hkc⟩ := List.any_eq_true.1 hh
        have hk' : k < j := List.mem_range.1 hk
        have := inc_lt h j hk' (by omega)
        have hkc' : chr l k = 97 + (c : Int) := by simpa using hkc
        omega
    have hstep : pS l W a (j + 1) = pS l W a j + (if c ≠ a then W c else 0) := by
      show (if (a : Int) ≠ chr l j - 97 then _ else _) = _
      by_cases hca : c = a
      · rw [if_neg (by omega), if_neg (by omega), Int.add_zero]
      · rw [if_pos (by omega), if_pos hca, hc]; rfl
    have hone : sm (fun b => if b = c then (if c ≠ a then W c else 0) else 0) 5 = (if c ≠ a then W c else 0) := by
      rw [sm_one hc5 (fun k _ hk => if_neg hk), if_pos rfl]
    rw [hstep, ih, ← hone, ← sm_add]
    apply sm_congr
    intro b hb
    rw [hasC_succ]
    by_cases hbc : b = c
    · subst hbc
      have e : (chr l j == 97 + (b : Int)) = true := by rw [beq_iff_eq]; exact hcn
      rw [hno, e, if_neg (fun h => by cases h.2), if_pos rfl, Int.zero_add]
      by_cases hba : b ≠ a
      · rw [if_pos hba, if_pos ⟨hba, rfl⟩]
      · rw [if_neg hba, if_neg (fun h => hba h.1)]
    · have e : (chr l j == 97 + (b : Int)) = false := by rw [beq_eq_false_iff_ne]; omega
      rw [e, Bool.or_false, if_neg hbc, Int.add_zero]

theorem ix_mem {x : UInt8} : ∀ l : List UInt8, 0 ≤ Lib.indexByte l x ↔ x ∈ l
  | [] => by simp [Lib.indexByte]
  | b :: l => by
    have ih := ix_mem (x := x) l
    unfold Lib.indexByte
    by_cases hb : (b == x) = true
    · rw [if_pos hb]
      have : b = x := by simpa using hb
      simp [this]
    · rw [if_neg hb]
      have hne : b ≠ x := by simpa using hb
      have hge := Lib.indexByte_ge l x
      by_cases h1 : (Lib.indexByte l x == -1) = true
      · rw [if_pos h1]
        have : Lib.indexByte l x = -1 := by simpa using h1
        simp only [List.mem_cons, Ne.symm hne, false_or, ← ih]
        omega
      · rw [if_neg h1]
        have : Lib.indexByte l x ≠ -1 := by simpa using h1
        simp only [List.mem_cons, Ne.symm hne, false_or, ← ih]
        omega
theorem in_has {l : List UInt8} {b : Nat} (hb : b < 5) : inL l b = hasC l l.length b := by
  have hx : (UInt8.ofNat (97 + b)).toNat = 97 + b := by
    have : b = 0 ∨ b = 1 ∨ b = 2 ∨ b = 3 ∨ b = 4 := by omega
    rcases this with rfl | rfl | rfl | rfl | rfl <;> rfl
  rw [Bool.eq_iff_iff]
  unfold inL hasC
  rw [decide_eq_true_eq, ix_mem, List.any_eq_true]
  constructor
  · intro h
    obtain ⟨k, hk, he⟩ := List.getElem_of_mem h
    refine ⟨k, List.mem_range.2 hk, ?_⟩
    rw [chr_at hk, he, hx]; simp
  · rintro ⟨k, hk, he⟩
    have hk' : k < l.length := List.mem_range.1 hk
    rw [chr_at hk'] at he
    have he' : (l[k].toNat : Int) = 97 + (b : Int) := by simpa using he
    have : l[k] = UInt8.ofNat (97 + b) := by
      apply UInt8.toNat_inj.1
      rw [hx]; omega
    rw [← this]; exact List.getElem_mem hk'

theorem list_may {f : Nat → List UInt8} {i b : Nat} (hb : b < 5) : may (listT f) i b ↔ inL (f i) b = true := by
  unfold may
  rw [listT_at hb]
  split
  · rename_i h; exact ⟨fun _ => h, fun _ => by decide⟩
  · rename_i h; exact ⟨fun h' => absurd h' (by decide), fun h' => absurd h' h⟩

/-- One row of the table, as the reference sums it. -/
theorem bwd_row {f : Nat → List UInt8} {n k a : Nat} (hl : incB (f (n - 1 - k)) = true) : bwd (listT f) n (-1) (k + 1) a = pS (f (n - 1 - k)) (bwd (listT f) n (-1) k) a (f (n - 1 - k)).length := by
  rw [pS_sum hl _ (Nat.le_refl _)]
  show sm _ 5 = _
  apply sm_congr
  intro b hb
  rw [← in_has hb]
  by_cases h : b ≠ a ∧ may (listT f) (n - 1 - k) b
  · rw [if_pos h, if_pos ⟨h.1, (list_may hb).1 h.2⟩]
  · rw [if_neg h, if_neg (fun h' => h ⟨h'.1, (list_may hb).2 h'.2⟩)]

theorem bwd_bound {T : Nat → Int} {n : Nat} {but : Int} : ∀ k a, 0 ≤ bwd T n but k a ∧ bwd T n but k a ≤ 5 ^ k
  | 0, a => by unfold bwd; split <;> simp
  | k + 1, a => by
    have ih := bwd_bound (T := T) (n := n) (but := but) k
    have : ∀ d, 0 ≤ sm (fun b => if b ≠ a ∧ may T (n - 1 - k) b then bwd T n but k b else 0) d ∧ sm (fun b => if b ≠ a ∧ may T (n - 1 - k) b then bwd T n but k b else 0) d ≤ d * 5 ^ k := by
      intro d
      induction d with
      | zero => simp [sm]
      | succ d ihd =>
        have h1 := ih d
        have e : ((d + 1 : Nat) : Int) * 5 ^ k = d * 5 ^ k + 5 ^ k := by rw [Int.natCast_add, Int.add_mul]; simp
        unfold sm
        rw [e]
        split <;> omega
    have h5 := this 5
    have e : (5 : Int) ^ (k + 1) = ((5 : Nat) : Int) * 5 ^ k := by rw [Int.pow_succ, Int.mul_comm]; rfl
    rw [e]
    exact h5
theorem bwd_bound' {T : Nat → Int} {n : Nat} {but : Int} {k : Nat} (hk : k ≤ 20) (a : Nat) : 0 ≤ bwd T n but k a ∧ bwd T n but k a ≤ 100000000000000000 := by
  have h := bwd_bound (T := T) (n := n) (but := but) k a
  have : (5 : Int) ^ k ≤ 5 ^ 20 := by
    have := Nat.pow_le_pow_right (n := 5) (by decide) hk
    exact_mod_cast this
  have h20 : (5 : Int) ^ 20 = 95367431640625 := by decide
  omega
theorem pS_bound {l : List UInt8} {W : Nat → Int} {a : Nat} (h : ∀ d, 0 ≤ W d ∧ W d ≤ 100000000000000000) : ∀ j, j ≤ 5 → 0 ≤ pS l W a j ∧ pS l W a j ≤ j * 100000000000000000
  | 0, _ => by simp [pS]
  | j + 1, hj => by
    have ih := pS_bound (l := l) (a := a) h j (by omega)
    have hd := h (chr l j - 97).toNat
    unfold pS
    split <;> omega
end Go.AL
