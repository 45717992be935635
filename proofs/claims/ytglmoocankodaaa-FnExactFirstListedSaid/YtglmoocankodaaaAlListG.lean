/-
  FirstListed on both sides: the walk, the law.
-/
import Derived.Test.YtglmoocankodaaaAlListF
namespace Go.AL
set_option linter.unusedSimpArgs false
set_option linter.unusedVariables false
open F
set_option linter.unusedSimpArgs false
set_option linter.unusedVariables false
variable {G : Env}

abbrev slotsQ1 : List Nat := 4 :: 5 :: 8 :: List.range' 24 32
set_option maxHeartbeats 2000000 in
theorem fl_L1 (h589 : G 589 = some (.code spec_coListed)) {b n i : Nat} {cc : Cap} {f : Nat → List UInt8} {p : Nat → Nat} {fr : Fr} {q : Mem} (hP : Part q b 0 n n f) (hn : n ≤ 20) (hin : i < n) (hbm : b < q.length) (hg : Good (listT f) p i) (hex : ∃ c, c < 5 ∧ okL (listT f) n false p i c 0)
    {β : Int} (hβ : (i = 0 ∧ β = 0) ∨ (0 < i ∧ β = ((97 + p (i - 1) : Nat) : Int)))
    (f0 : fget fr 0 = V.a (.sl b 0 n (.ex n))) (f6 : fget fr 6 = V.i i) (f7 : fget fr 7 = V.s (f i)) (f5 : fget fr 5 = V.a (.int .u8 β)) (f8 : fget fr 8 = V.i 0) (f4 : fget fr 4 = V.s (doneS p i)) :
    Wc G (.loop spec_FirstListed_L1) (fun e f' q' => e = .exit 2 ∧ Ext q q' ∧ fget f' 4 = V.s (doneS (put1 p i (nextL (listT f) n false p i 0)) (i + 1)) ∧ fget f' 5 = V.a (.int .u8 ((97 + nextL (listT f) n false p i 0 : Nat) : Int)) ∧ Keep slotsQ1 fr f') fr q := by
  obtain ⟨hinc, hl1, hl5⟩ := listB_spec (hP.ok i hin)
  have hz : Zero (listT f) := listT_zero
  refine Wc.loopN (fun k f' q' => fget f' 8 = V.i k ∧ Keep slotsQ1 fr f' ∧ Ext q q' ∧ fget f' 4 = V.s (doneS p i) ∧ fget f' 5 = V.a (.int .u8 β) ∧ ∀ k' (h : k' < (f i).length), k' < k → ∀ c : Nat, chr (f i) k' = 97 + (c : Int) → ¬ okL (listT f) n false p i c 0) (f i).length (fun k f' q' hk0 hS => ?_)
    ⟨f8, Keep.refl, Ext.refl _, f4, f5, fun k' _ hk => by omega⟩
  obtain ⟨h8, hk, he, h4, h5, hno⟩ := hS
  have k0 := (hk 0 (by decide)).trans f0; have k6 := (hk 6 (by decide)).trans f6; have k7 := (hk 7 (by decide)).trans f7
  have mem : ∀ c : Nat, c < 5 → okL (listT f) n false p i c 0 → ∃ k' : Nat, ∃ h : k' < (f i).length, chr (f i) k' = 97 + (c : Int) := by
    intro c hc5 hok
    have hm := (list_may hc5).1 ((okL_zero hz hg).1 hok).2.1
    rw [in_has hc5] at hm
    unfold hasC at hm
    obtain ⟨k', hk', he'⟩ := List.any_eq_true.1 hm
    exact ⟨k', List.mem_range.1 hk', by simpa using he'⟩
  have hlt : k < (f i).length := by
    obtain ⟨c, hc5, hok⟩ := hex
    obtain ⟨k', hk', hc'⟩ := mem c hc5 hok
    by_cases h : k < (f i).length
    · exact h
    · exact absurd hok (hno k' hk' (by omega) c hc')
  obtain ⟨c, hc5, hc, hcx, hcu⟩ := list_at hinc hlt
  have hsi : (f i)[k]? = some (f i)[k] := List.getElem?_eq_getElem hlt
  have hcn : (((f i)[k]).toNat : Int) = ((97 + c : Nat) : Int) := by rw [hcx]; exact hcu
  have hmay : may (listT f) i c := by
    rw [list_may hc5, in_has hc5]
    unfold hasC
    exact List.any_eq_true.2 ⟨k, List.mem_range.2 hlt, by simpa using hc⟩
  have hdl : decide ((k : Int) < (f i).length) = true := decide_eq_true (by omega)
  have hokz := okL_zero (c := c) (n := n) hz hg
  have found : okL (listT f) n false p i c 0 → nextL (listT f) n false p i 0 = c := fun hok => firstB_eq 5 0 (Nat.zero_le _) (by omega) (fun d _ hd => decide_eq_false (fun hok' => by
    obtain ⟨k', hk', hd'⟩ := mem d (by omega) hok'
    have hkk : k' < k := by
      rcases Nat.lt_or_ge k' k with h | h
      · exact h
      · by_cases hkk : k = k'
        · subst hkk; omega
        · have := inc_lt hinc (k := k) k' (by omega) hk'; omega
    exact hno k' hk' hkk d hd' hok')) (decide_eq_true hok)
  have no : ¬ okL (listT f) n false p i c 0 → ∀ k' (h : k' < (f i).length), k' < k + 1 → ∀ c : Nat, chr (f i) k' = 97 + (c : Int) → ¬ okL (listT f) n false p i c 0 := fun h k' hk' hkk c' hc' => by
    by_cases hkk' : k' = k
    · subst hkk'
      have : c' = c := by omega
      rw [this]; exact h
    · exact hno k' hk' (by omega) c' hc'
  unfold spec_FirstListed_L1
  simp (decide := true) (disch := first | omega | rfl) only [↓SD, SP, opE, fget, binA, Nat.reduceEqDiff, reduceIte, again, stepV, wanted, resE, resL, resU, wr, rd, known, fillE, U.cells, h8, k7, hdl, hsi, hcn, h5]
  by_cases hb : ((97 + c : Nat) : Int) = β
  · have hb1 : (((97 + c : Nat) : Int) != β) = false := by rw [bne_eq_false_iff_eq]; exact hb
    have hbad : ¬ okL (listT f) n false p i c 0 := fun hok => by
      have := (hokz.1 hok).1
      rcases hβ with ⟨h1, h2⟩ | ⟨h1, h2⟩
      · omega
      · rcases this with h3 | h3
        · omega
        · omega
    simp (decide := true) (disch := first | omega | rfl) only [↓SD, SP, opE, fget, binA, Nat.reduceEqDiff, reduceIte, again, stepV, wanted, resE, resL, resU, wr, rd, known, fillE, U.cells, hb1, h8]
    exact ⟨hlt, by simp, (by (repeat (refine Keep.set ?_ (by decide))); exact hk), he, h4, h5, no hbad⟩
  · have hb1 : (((97 + c : Nat) : Int) != β) = true := by rw [bne_iff_ne]; exact hb
    have hne : i = 0 ∨ p (i - 1) ≠ c := by
      rcases hβ with ⟨h1, h2⟩ | ⟨h1, h2⟩
      · exact .inl h1
      · exact .inr (fun h => hb (by rw [h2, h]))
    have hok_iff : okL (listT f) n false p i c 0 ↔ 0 < bwd (listT f) n (-1) (n - (i + 1)) c := hokz.trans ⟨fun h => h.2.2, fun h => ⟨hne, hmay, h⟩⟩
    have e1 : ((i : Int) + 1).toNat = i + 1 := by omega
    have e2 : ((k : Int) + 1).toNat = k + 1 := by omega
    have hdt : List.drop k (List.take (k + 1) (f i)) = [UInt8.ofNat (97 + c)] := by
      rw [List.take_add_one, List.drop_append_of_le_length (by rw [List.length_take]; omega)]
      rw [List.drop_of_length_le (by rw [List.length_take]; omega), hsi, hcx]; rfl
    have hnx := doneS_snoc (p := p) (i := i) (c := c)
    have hl1' : (doneS p i).length = i := doneS_len
    have go : ∀ mm, Ext q mm → Rn G 589 [V.a (.sl b (if n = i + 1 then 0 else i + 1) (n - (i + 1)) (.ex (n - (i + 1)))), V.a (.int .u8 ((97 + c : Nat) : Int))] mm fun v m' => v = V.i (bwd (listT f) n (-1) (n - (i + 1)) c) ∧ Ext mm m' := by
      intro mm hmm
      have hlm := hmm.1
      by_cases hlast : n = i + 1
      · have hP0 : Part mm b 0 0 n f := ⟨fun h => by omega, by omega, hP.ok⟩
        have := coListed_ok (a := c) (β := ((97 + c : Nat) : Int)) (cc := .ex (n - (i + 1))) h589 hP0 hn (by omega) some_ok
        rw [if_pos hlast, show n - (i + 1) = 0 by omega]
        have e0 : bwd (listT f) n (-1) 0 c = bwd (listT f) (0 + 0) (-1) 0 c := rfl
        rw [e0]
        rw [show n - (i + 1) = 0 by omega] at this
        exact this
      · have hP0 : Part mm b (i + 1) (n - (i + 1)) n f := ⟨fun h => by obtain ⟨w, hw⟩ := hP.blk (by omega); exact ⟨w, hmm.get hw⟩, by omega, hP.ok⟩
        have := coListed_ok (a := c) (β := ((97 + c : Nat) : Int)) (cc := .ex (n - (i + 1))) h589 hP0 hn (by omega) some_ok
        rw [if_neg hlast]
        rw [show i + 1 + (n - (i + 1)) = n by omega] at this
        exact this
    simp (decide := true) (disch := first | omega | rfl) only [↓SD, SP, opE, fget, binA, Nat.reduceEqDiff, reduceIte, again, stepV, wanted, resE, resL, resU, wr, rd, known, fillE, U.cells, hb1, k0, k6, k7, h8, hsi, hcn, bnd, e1]
    refine Wo.callR (by simp (decide := true) (disch := first | omega | rfl) only [↓SD, SP, opE, fget, binA, Nat.reduceEqDiff, reduceIte, again, stepV, wanted, resE, resL, resU, wr, rd, known, fillE, U.cells]; try rfl) (go _ he) ?_
    rintro _ m2 ⟨rfl, he2⟩
    simp (decide := true) (disch := first | omega | rfl) only [↓SD, SP, opE, fget, binA, Nat.reduceEqDiff, reduceIte, again, stepV, wanted, resE, resL, resU, wr, rd, known, fillE, U.cells]
    by_cases hpos : 0 < bwd (listT f) n (-1) (n - (i + 1)) c
    · have hpb : decide (0 < bwd (listT f) n (-1) (n - (i + 1)) c) = true := decide_eq_true hpos
      have hok := hok_iff.2 hpos
      rw [found hok]
      simp (decide := true) (disch := first | omega | rfl) only [↓SD, SP, opE, fget, binA, Nat.reduceEqDiff, reduceIte, again, stepV, wanted, resE, resL, resU, wr, rd, known, fillE, U.cells, hpb, k7, h8, hsi, hcn, h4, bnd, e2, hdt, hnx, hl1']
      exact ⟨he.trans he2, (by (repeat (refine Keep.set ?_ (by decide))); exact hk)⟩
    · have hpb : decide (0 < bwd (listT f) n (-1) (n - (i + 1)) c) = false := decide_eq_false hpos
      simp (decide := true) (disch := first | omega | rfl) only [↓SD, SP, opE, fget, binA, Nat.reduceEqDiff, reduceIte, again, stepV, wanted, resE, resL, resU, wr, rd, known, fillE, U.cells, hpb, h8]
      exact ⟨hlt, by simp, (by (repeat (refine Keep.set ?_ (by decide))); exact hk), he.trans he2, h4, h5, no (fun h => hpos (hok_iff.1 h))⟩
end Go.AL
