/-
  The reference's count of lists, and CountListed.
-/
import Derived.Test.YtglmoocankodaaaAlListC
import Derived.Test.YtglmoocankodaaaAlColCount
namespace Go.AL
set_option linter.unusedSimpArgs false
set_option linter.unusedVariables false
open F
set_option linter.unusedSimpArgs false
set_option linter.unusedVariables false
variable {G : Env}

theorem coListed_L3 {b o k N bw a : Nat} {cc : Cap} {β : Int} {f : Nat → List UInt8} {W : Nat → Int} {fr : Fr} {q : Mem} (hP : Part q b o k N f) (hk1 : 1 ≤ k) (hβ : ∀ x : Int, 97 ≤ x → x ≤ 101 → (x ≠ β ↔ (a : Int) ≠ x - 97))
    (f0 : fget fr 0 = V.a (.sl b o k cc)) (f1 : fget fr 1 = V.a (.int .u8 β)) (f5 : fget fr 5 = V.a (.sl bw 0 5 (.ex 5))) (f11 : fget fr 11 = V.i 0) (f12 : fget fr 12 = V.i 0)
    (qw : q[bw]? = some (.cells true (ints 5 W))) (hW : ∀ d, 0 ≤ W d ∧ W d ≤ 100000000000000000) :
    Wc G (.loop spec_coListed_L3) (fun e f' q' => e = .exit 6 ∧ q' = q ∧ fget f' 11 = V.i (pS (f o) W a (f o).length)) fr q := by
  obtain ⟨w, qb⟩ := hP.blk (by omega)
  have hle := hP.le
  obtain ⟨hinc, hl1, hl5⟩ := listB_spec (hP.ok o (by omega))
  have hcell := strsL_cell (n := N) (f := f) (j := o) (by omega)
  have hlen : (strsL N f).length = N := strsL_len
  have z : ((0 : Int).toNat) = 0 := rfl
  refine Wc.loopN (fun j f' q' => fget f' 12 = V.i j ∧ fget f' 0 = V.a (.sl b o k cc) ∧ fget f' 1 = V.a (.int .u8 β) ∧ fget f' 5 = V.a (.sl bw 0 5 (.ex 5)) ∧ q' = q ∧ fget f' 11 = V.i (pS (f o) W a j)) (f o).length (fun j f' q' hj0 hS => ?_) ⟨f12, f0, f1, f5, rfl, f11⟩
  obtain ⟨h12, h0, h1, h5, rfl, h11⟩ := hS
  unfold spec_coListed_L3
  simp (decide := true) (disch := first | omega | rfl) only [↓SD, SP, opE, fget, binA, Nat.reduceEqDiff, reduceIte, again, stepV, wanted, resE, resL, resU, wr, rd, known, fillE, U.cells, h12, h0, z, qb, hcell, hlen]
  refine ⟨fun hb => ?_, fun hb => ?_⟩
  · have hlt := of_decide_eq_true hb
    have hj : j < (f o).length := by omega
    have hsi : (f o)[j]? = some (f o)[j] := List.getElem?_eq_getElem hj
    have hc := chr_at hj
    obtain ⟨⟨g1, g2⟩, _⟩ := okC_spec (inc_at hinc hj)
    obtain ⟨x, hx⟩ := Int.eq_ofNat_of_zero_le (show 0 ≤ chr (f o) j - 97 by omega)
    have hx5 : x < 5 := by omega
    have hw8 : IntKind.u8.wrap (((f o)[j].toNat : Int) - 97) = x := by rw [← hc, IntKind.wrap_u8]; omega
    have hwx := hW x
    have hpb := pS_bound (l := f o) (W := W) (a := a) hW j (by omega)
    have hstep : pS (f o) W a (j + 1) = if (a : Int) ≠ (x : Int) then pS (f o) W a j + W x else pS (f o) W a j := by
      show (if (a : Int) ≠ chr (f o) j - 97 then pS (f o) W a j + W (chr (f o) j - 97).toNat else _) = _
      rw [hx]; rfl
    have hbx := hβ _ g1 g2
    rw [hx, hc] at hbx
    simp (decide := true) (disch := first | omega | rfl) only [↓SD, SP, opE, fget, binA, Nat.reduceEqDiff, reduceIte, again, stepV, wanted, resE, resL, resU, wr, rd, known, fillE, U.cells, h12, h0, h1, z, qb, hcell, hlen, hsi]
    by_cases hax : ((f o)[j].toNat : Int) = β
    · have hb1 : (((f o)[j].toNat : Int) != β) = false := by rw [bne_eq_false_iff_eq]; exact hax
      rw [if_neg (fun h => (hbx.2 h) hax)] at hstep
      simp (decide := true) (disch := first | omega | rfl) only [↓SD, SP, opE, fget, binA, Nat.reduceEqDiff, reduceIte, again, stepV, wanted, resE, resL, resU, wr, rd, known, fillE, U.cells, hb1, h12]
      exact ⟨hj, by simp, h0, h1, h5, by rw [h11, hstep]⟩
    · have hb1 : (((f o)[j].toNat : Int) != β) = true := by rw [bne_iff_ne]; exact hax
      rw [if_pos (hbx.1 hax)] at hstep
      simp (decide := true) (disch := first | omega | rfl) only [↓SD, SP, opE, fget, binA, Nat.reduceEqDiff, reduceIte, again, stepV, wanted, resE, resL, resU, wr, rd, known, fillE, U.cells, hb1, h12, h0, h11, h5, z, qb, hcell, hlen, hsi, hw8, qw]
      first
      | exact ⟨hj, by simp, h1, by rw [hstep]⟩
      | exact ⟨hj, by simp, h0, h1, h5, by rw [hstep]⟩
  · have hlt := of_decide_eq_false hb
    have : j = (f o).length := by omega
    subst this
    simp (decide := true) (disch := first | omega | rfl) only [↓SD, SP, opE, fget, binA, Nat.reduceEqDiff, reduceIte, again, stepV, wanted, resE, resL, resU, wr, rd, known, fillE, U.cells]
    exact h11

set_option maxHeartbeats 1000000 in
theorem coListed_ok (hG : G 589 = some (.code spec_coListed)) {m : Mem} {b o k N a : Nat} {cc : Cap} {β : Int} {f : Nat → List UInt8} (hP : Part m b o k N f) (hN : N ≤ 20) (hbm : b < m.length) (hβ : ∀ x : Int, 97 ≤ x → x ≤ 101 → (x ≠ β ↔ (a : Int) ≠ x - 97)) :
    Rn G 589 [V.a (.sl b o k cc), V.a (.int .u8 β)] m fun v m' => v = V.i (bwd (listT f) (o + k) (-1) k a) ∧ Ext m m' := by
  refine Rn.code hG ?_
  have hle := hP.le
  have h5 : ints 5 (upd (upd (upd (upd (upd (fun _ => 0) 0 1) 1 1) 2 1) 3 1) 4 1) = ints 5 (bwd (listT f) (o + k) (-1) 0) := ints_congr fun j hj => by
    have hr : bwd (listT f) (o + k) (-1) 0 j = 1 := by unfold bwd; rw [if_neg (by omega)]
    rw [hr]
    have : j = 0 ∨ j = 1 ∨ j = 2 ∨ j = 3 ∨ j = 4 := by omega
    rcases this with rfl | rfl | rfl | rfl | rfl <;> rfl
  unfold spec_coListed
  simp (decide := true) (disch := first | omega | rfl) only [↓SD, SP, opE, fget, binA, Nat.reduceEqDiff, reduceIte, again, stepV, wanted, resE, resL, resU, wr, rd, known, fillE, U.cells]
  by_cases hk0 : k = 0
  · refine Wc.loopN (fun i f' q => fget f' 6 = V.i ((k : Int) - 1) ∧ fget f' 0 = V.a (.sl b o k cc) ∧ Ext m q) 0 (fun i f' q hil hS => ?_) ⟨by simp (decide := true) (disch := first | omega | rfl) only [↓SD, SP, opE, fget, binA, Nat.reduceEqDiff, reduceIte, again, stepV, wanted, resE, resL, resU, wr, rd, known, fillE, U.cells], by simp (decide := true) (disch := first | omega | rfl) only [↓SD, SP, opE, fget, binA, Nat.reduceEqDiff, reduceIte, again, stepV, wanted, resE, resL, resU, wr, rd, known, fillE, U.cells], Ext.push _ _⟩
    obtain ⟨h6, h0, he⟩ := hS
    have hd : decide ((0 : Int) < (k : Int) - 1) = false := decide_eq_false (by omega)
    have hz : ((k : Int) == 0) = true := by rw [beq_iff_eq]; omega
    unfold spec_coListed_L0
    simp (decide := true) (disch := first | omega | rfl) only [↓SD, SP, opE, fget, binA, Nat.reduceEqDiff, reduceIte, again, stepV, wanted, resE, resL, resU, wr, rd, known, fillE, U.cells, h6, h0, hd, hz]
    refine ⟨_, rfl, ?_, he⟩
    rw [hk0]
    have hr : bwd (listT f) (o + 0) (-1) 0 a = 1 := by unfold bwd; rw [if_neg (by omega)]
    rw [hr]
  · have e6 : (k : Int) - 1 = ((k - 1 : Nat) : Int) := by omega
    have hz : ((k : Int) == 0) = false := by rw [beq_eq_false_iff_ne]; omega
    rw [h5]
    refine (coListed_L0 (b := b) (o := o) (k := k) (N := N) (bw := m.length) (f := f) (m := m) (cc := cc) (hP.ext (Ext.push _ _)) hN (by omega) (Nat.le_refl _) hbm (Ext.push _ _) (by simp (decide := true) (disch := first | omega | rfl) only [↓SD, SP, opE, fget, binA, Nat.reduceEqDiff, reduceIte, again, stepV, wanted, resE, resL, resU, wr, rd, known, fillE, U.cells]) (by simp (decide := true) (disch := first | omega | rfl) only [↓SD, SP, opE, fget, binA, Nat.reduceEqDiff, reduceIte, again, stepV, wanted, resE, resL, resU, wr, rd, known, fillE, U.cells, e6]) (by simp (decide := true) (disch := first | omega | rfl) only [↓SD, SP, opE, fget, binA, Nat.reduceEqDiff, reduceIte, again, stepV, wanted, resE, resL, resU, wr, rd, known, fillE, U.cells]) (by simp)).mono ?_
    rintro e f2 q2 ⟨rfl, he, ⟨bw, g5, hw⟩, hP2, hk⟩
    have j0 := hk 0 (by decide); have j1 := hk 1 (by decide)
    simp (decide := true) only [↓SD, SP, opE, fget, binA, Nat.reduceEqDiff, reduceIte, again, stepV, wanted, resE, resL, resU, wr, rd, known, fillE, U.cells] at j0 j1
    simp (decide := true) (disch := first | omega | rfl) only [↓SD, SP, opE, fget, binA, Nat.reduceEqDiff, reduceIte, again, stepV, wanted, resE, resL, resU, wr, rd, known, fillE, U.cells, j0, hz]
    refine (coListed_L3 (b := b) (o := o) (k := k) (N := N) (bw := bw) (a := a) (cc := cc) (β := β) (f := f) (W := bwd (listT f) (o + k) (-1) (k - 1)) hP2 (by omega) hβ (by simp (decide := true) (disch := first | omega | rfl) only [↓SD, SP, opE, fget, binA, Nat.reduceEqDiff, reduceIte, again, stepV, wanted, resE, resL, resU, wr, rd, known, fillE, U.cells, j0]) (by simp (decide := true) (disch := first | omega | rfl) only [↓SD, SP, opE, fget, binA, Nat.reduceEqDiff, reduceIte, again, stepV, wanted, resE, resL, resU, wr, rd, known, fillE, U.cells, j1]) (by simp (decide := true) (disch := first | omega | rfl) only [↓SD, SP, opE, fget, binA, Nat.reduceEqDiff, reduceIte, again, stepV, wanted, resE, resL, resU, wr, rd, known, fillE, U.cells, g5]) (by simp (decide := true) (disch := first | omega | rfl) only [↓SD, SP, opE, fget, binA, Nat.reduceEqDiff, reduceIte, again, stepV, wanted, resE, resL, resU, wr, rd, known, fillE, U.cells]) (by simp (decide := true) (disch := first | omega | rfl) only [↓SD, SP, opE, fget, binA, Nat.reduceEqDiff, reduceIte, again, stepV, wanted, resE, resL, resU, wr, rd, known, fillE, U.cells]) hw (fun d => bwd_bound' (by omega) d)).mono ?_
    rintro e f3 q3 ⟨rfl, rfl, g11⟩
    simp (decide := true) (disch := first | omega | rfl) only [↓SD, SP, opE, fget, binA, Nat.reduceEqDiff, reduceIte, again, stepV, wanted, resE, resL, resU, wr, rd, known, fillE, U.cells, g11]
    refine ⟨_, rfl, ?_, he⟩
    obtain ⟨r, rfl⟩ : ∃ r, k = r + 1 := ⟨k - 1, by omega⟩
    have er : o + (r + 1) - 1 - r = o := by omega
    have := bwd_row (f := f) (n := o + (r + 1)) (k := r) (a := a) (by rw [er]; exact (listB_spec (hP.ok _ (by omega))).1)
    rw [er] at this
    rw [this, show r + 1 - 1 = r by omega]

theorem none_ok : ∀ x : Int, 97 ≤ x → x ≤ 101 → (x ≠ 0 ↔ ((5 : Nat) : Int) ≠ x - 97) := fun x h1 h2 => ⟨fun _ => by omega, fun _ => by omega⟩
theorem some_ok {c : Nat} : ∀ x : Int, 97 ≤ x → x ≤ 101 → (x ≠ ((97 + c : Nat) : Int) ↔ (c : Int) ≠ x - 97) := fun x h1 h2 => ⟨fun _ => by omega, fun _ => by omega⟩

theorem lineN_bwd5 {T : Nat → Int} {n : Nat} {but : Int} (h1 : 1 ≤ n) (hn : n ≤ 20) : lineN T n but = bwd T n but n 5 := by
  obtain ⟨i, rfl⟩ : ∃ i, n = i + 1 := ⟨n - 1, by omega⟩
  rw [lineN_bwd (by omega) hn]
  show _ = sm _ 5
  apply sm_congr
  intro b hb
  rw [show i + 1 - 1 - i = 0 by omega, show i + 1 - 1 = i by omega]
  by_cases hm : may T 0 b
  · rw [if_pos hm, if_pos ⟨by omega, hm⟩]
  · rw [if_neg hm, if_neg (fun h => hm h.2)]

structure ColK (G : Env) : Prop where
  look : G 562 = some (.code impl_table_look)
  fixed : G 878 = some (.code impl_table_fixed)
  clone : G 966 = some (.code slices_Clone_impl_table_5_int)
  line : G 893 = some (.code impl_table_line)
def clV (n : Nat) (f : Nat → List UInt8) : V := if listsB n f = true then .t [.a (.int .i64 (bwd (listT f) n (-1) n 5)), .a (.bool true)] else .t [.a (.int .i64 0), .a (.bool false)]

theorem implCl_ok (h : ColL G) (hi : ColK G) (h541 : G 541 = some (.code impl_table_count)) (h930 : ∀ {m : Mem} {s : List UInt8} {c : Int}, Rn G 930 [V.s s, V.a (.int .u8 c)] m fun v m' => v = V.i (Lib.indexByte s c.toNat.toUInt8) ∧ m' = m) (hG : G 125 = some (.code impl_CountListed))
    {m : Mem} {b n : Nat} {c : Cap} {f : Nat → List UInt8} (hq : m[b]? = some (.cells true (strsL n f))) (hn : n ≤ 1048576) (hf : ∀ i, (f i).length ≤ 9223372036854775807) :
    Rn G 125 [V.a (.sl b 0 n c)] m fun v m' => v = clV n f ∧ Ext m m' := by
  refine Rn.code hG ?_
  unfold impl_CountListed clV
  simp (decide := true) (disch := first | omega | rfl) only [↓SD, SP, opE, fget, binA, Nat.reduceEqDiff, reduceIte, again, stepV, wanted, resE, resL, resU, wr, rd, known, fillE, U.cells]
  refine Wo.callR (by simp (decide := true) (disch := first | omega | rfl) only [↓SD, SP, opE, fget, binA, Nat.reduceEqDiff, reduceIte, again, stepV, wanted, resE, resL, resU, wr, rd, known, fillE, U.cells]; try rfl) (listed_ok h h930 hq hn hf) ?_
  rintro _ m1 ⟨⟨hl, bt, ct, rfl, hbt, hlo⟩ | ⟨hl, rfl⟩, he⟩
  · obtain ⟨⟨h1, h2⟩, _⟩ := lists_spec hl
    simp (decide := true) (disch := first | omega | rfl) only [↓SD, SP, opE, fget, binA, Nat.reduceEqDiff, reduceIte, again, stepV, wanted, resE, resL, resU, wr, rd, known, fillE, U.cells]
    refine Wo.callR (by simp (decide := true) (disch := first | omega | rfl) only [↓SD, SP, opE, fget, binA, Nat.reduceEqDiff, reduceIte, again, stepV, wanted, resE, resL, resU, wr, rd, known, fillE, U.cells]; try rfl) (count_ok (around := false) h541 hi.look hi.fixed hi.clone hi.line hbt (by omega) h2 (zero_nonneg listT_zero)) ?_
    rintro _ m2 ⟨rfl, he2⟩
    have e : cntT (listT f) n false = bwd (listT f) n (-1) n 5 := lineN_bwd5 h1 h2
    rw [e]
    simp (decide := true) (disch := first | omega | rfl) only [↓SD, SP, opE, fget, binA, Nat.reduceEqDiff, reduceIte, again, stepV, wanted, resE, resL, resU, wr, rd, known, fillE, U.cells]
    exact ⟨_, rfl, by first | rfl | rw [if_pos hl], he.trans he2⟩
  · simp (decide := true) (disch := first | omega | rfl) only [↓SD, SP, opE, fget, binA, Nat.reduceEqDiff, reduceIte, again, stepV, wanted, resE, resL, resU, wr, rd, known, fillE, U.cells]
    exact ⟨_, rfl, by rw [if_neg (by rw [hl]; decide)], he⟩

theorem specCl_ok (hl1 : G 598 = some (.code spec_l1In)) (h588 : G 588 = some (.code spec_coLists)) (h589 : G 589 = some (.code spec_coListed)) (hG : G 123 = some (.code spec_CountListed))
    {m : Mem} {b n : Nat} {c : Cap} {f : Nat → List UInt8} (hq : m[b]? = some (.cells true (strsL n f))) (hn : n ≤ 1048576) (hf : ∀ i, (f i).length ≤ 9223372036854775807) :
    Rn G 123 [V.a (.sl b 0 n c)] m fun v m' => v = clV n f ∧ Ext m m' := by
  refine Rn.code hG ?_
  unfold spec_CountListed clV
  simp (decide := true) (disch := first | omega | rfl) only [↓SD, SP, opE, fget, binA, Nat.reduceEqDiff, reduceIte, again, stepV, wanted, resE, resL, resU, wr, rd, known, fillE, U.cells]
  refine Wo.callR (by simp (decide := true) (disch := first | omega | rfl) only [↓SD, SP, opE, fget, binA, Nat.reduceEqDiff, reduceIte, again, stepV, wanted, resE, resL, resU, wr, rd, known, fillE, U.cells]; try rfl) (coLists_ok hl1 h588 hq hn hf) ?_
  rintro _ m ⟨rfl, rfl⟩
  cases hl : listsB n f with
  | false =>
    simp (decide := true) (disch := first | omega | rfl) only [↓SD, SP, opE, fget, binA, Nat.reduceEqDiff, reduceIte, again, stepV, wanted, resE, resL, resU, wr, rd, known, fillE, U.cells]
    exact ⟨_, rfl, rfl, Ext.refl _⟩
  | true =>
    obtain ⟨⟨h1, h2⟩, h3⟩ := lists_spec hl
    have hP : Part m b 0 n n f := ⟨fun _ => ⟨true, hq⟩, by omega, h3⟩
    simp (decide := true) (disch := first | omega | rfl) only [↓SD, SP, opE, fget, binA, Nat.reduceEqDiff, reduceIte, again, stepV, wanted, resE, resL, resU, wr, rd, known, fillE, U.cells]
    refine Wo.callR (by simp (decide := true) (disch := first | omega | rfl) only [↓SD, SP, opE, fget, binA, Nat.reduceEqDiff, reduceIte, again, stepV, wanted, resE, resL, resU, wr, rd, known, fillE, U.cells]; try rfl) (coListed_ok (a := 5) (β := 0) h589 hP h2 (lt_of_get hq) none_ok) ?_
    rintro _ m1 ⟨rfl, he⟩
    simp (decide := true) (disch := first | omega | rfl) only [↓SD, SP, opE, fget, binA, Nat.reduceEqDiff, reduceIte, again, stepV, wanted, resE, resL, resU, wr, rd, known, fillE, U.cells]
    exact ⟨_, rfl, by first | rfl | (rw [Nat.zero_add]; rfl), he⟩

theorem ixb0_ok (h : G 930 = some (.code strings_IndexByte)) (hp : G 992 = some (.prim idxPrim)) {m : Mem} {s : List UInt8} {c : Int} : Rn G 930 [V.s s, V.a (.int .u8 c)] m fun v m' => v = V.i (Lib.indexByte s c.toNat.toUInt8) ∧ m' = m := by
  refine Rn.code h ?_
  unfold strings_IndexByte
  simp (decide := true) (disch := first | omega | rfl) only [↓SD, SP, opE, fget, binA, Nat.reduceEqDiff, reduceIte, again, stepV, wanted, resE, resL, resU, wr, rd, known, fillE, U.cells]
  refine Wo.callR (by simp (decide := true) (disch := first | omega | rfl) only [↓SD, SP, opE, fget, binA, Nat.reduceEqDiff, reduceIte, again, stepV, wanted, resE, resL, resU, wr, rd, known, fillE, U.cells]; try rfl) (idx_ok hp) ?_
  rintro _ _ ⟨rfl, rfl⟩
  simp (decide := true) (disch := first | omega | rfl) only [↓SD, SP, opE, fget, binA, Nat.reduceEqDiff, reduceIte, again, stepV, wanted, resE, resL, resU, wr, rd, known, fillE, U.cells]
  exact ⟨_, rfl, rfl⟩

theorem lawCl (h : ColL G) (hi : ColK G) (h541 : G 541 = some (.code impl_table_count)) (h930 : ∀ {m : Mem} {s : List UInt8} {c : Int}, Rn G 930 [V.s s, V.a (.int .u8 c)] m fun v m' => v = V.i (Lib.indexByte s c.toNat.toUInt8) ∧ m' = m) (h125 : G 125 = some (.code impl_CountListed))
    (hl1 : G 598 = some (.code spec_l1In)) (h588 : G 588 = some (.code spec_coLists)) (h589 : G 589 = some (.code spec_coListed)) (h123 : G 123 = some (.code spec_CountListed))
    (h122 : G 122 = some (.code laws_szStringS)) (h124 : G 124 = some (.code laws_toStringS)) (h126 : G 126 = some (.code laws_eqStringS)) (h20 : G 20 = some (.code laws_FnExactCountListed))
    {m : Mem} {v : V} {f : Nat → List UInt8} (hv : IsRow m v (fun i => .str (f i))) (hf : ∀ i, (f i).length ≤ 9223372036854775807) : ∃ k m', run G k 20 [v] m = some (V.b true, m') := by
  obtain ⟨n, hn, hT⟩ := TxL.of hv
  exact lawTx_ok (x := 123) (y := 125) (val := clV n f) h20 h122 h124 h126 hT hn hf (.inl (by unfold clV; split <;> exact ⟨_, _, rfl⟩)) (fun mm b hq hn => specCl_ok hl1 h588 h589 h123 hq hn hf) (fun mm b hq hn => implCl_ok h hi h541 h930 h125 hq hn hf)
end Go.AL
