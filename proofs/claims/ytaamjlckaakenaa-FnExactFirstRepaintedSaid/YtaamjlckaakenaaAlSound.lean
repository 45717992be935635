/-
  THE SOUNDNESS OF THE INTERPRETER: where 'run' answers, the model's call returns that answer.
-/
import Derived.Test.YtaamjlckaakenaaAlDrawSound
namespace Go.AL
set_option linter.unusedSimpArgs false
set_option linter.unusedVariables false
open Go.RowKit

variable {σ : Nat → Nat} {B : Nat} {w0 : World} {P : Program} {ρ : Nat → Option Nat} {nt : Nat} {call : CallE} {ops : Array Oper} {G : Env}

theorem Then.of {E E' : Emb} {n n' : Nat} {fr' : Fr} {m' : Mem} {K : Act → World → Prop} (h : Then σ ρ B w0 nt E n fr' m' K) (ha : Agree n E E') (hn : n ≤ n') : Then σ ρ B w0 nt E' n' fr' m' K :=
  fun E2 a2 w2 h1 h2 h3 => h E2 a2 w2 (ha.trans h1 hn) (Nat.le_trans hn h2) h3

theorem opsE_ok (hcall : CallEnv P σ B w0 call) {Q : Exit → Act → World → Prop} : ∀ (l : List Oper) (k : Nat), ops.toList.drop k = l → ∀ {is : List I} {E : Emb} {m m' : Mem} {w : World} {fr fr' : Fr} {a : Act},
    cIs ρ P nt ops l = some is → opsE call is fr m = some (fr', m') → St σ ρ B w0 nt E m w fr a → Then σ ρ B w0 nt E m.length fr' m' (Q .normal) → wpOps P ops Q (List.range' k l.length) a w
  | [], k, hl, is, E, m, m', w, fr, fr', a, hc, he, h, hK => by
    cases hc
    simp only [opsE, Option.some.injEq, Prod.mk.injEq] at he
    obtain ⟨rfl, rfl⟩ := he
    exact hK E a w (Agree.refl _ _) (Nat.le_refl _) h
  | o :: r, k, hl, is, E, m, m', w, fr, fr', a, hc, he, h, hK => by
    have hk : ops[k]? = some o := by
      have := congrArg (fun l => l[0]?) hl
      simpa using this
    have hr : ops.toList.drop (k + 1) = r := by
      have := congrArg List.tail hl
      simpa [List.tail_drop] using this
    simp only [cIs] at hc
    split at hc
    case h_2 => cases hc
    rename_i i is' hi his
    cases hc
    simp only [opsE] at he
    split at he
    case h_2 => cases he
    rename_i fr1 m1 hs
    rw [List.length_cons, List.range'_succ]
    simp only [wpOps, hk]
    exact step_ok h hcall hi hs (fun E1 a1 w1 h1 h2 h3 => opsE_ok hcall r (k + 1) hr his he h3 (hK.of h1 h2))

theorem any_sound (hcall : CallEnv P σ B w0 call) {is : List I} (his : ∀ (i : Nat) (ii : I) (o : Oper), is[i]? = some ii → ops[i]? = some o → cI ρ P nt ops o = some ii) {Q : Exit → Act → World → Prop} :
    ∀ (n : Nat) (listed : Array Bool) {E : Emb} {m m' : Mem} {w : World} {fr fr' : Fr} {a : Act}, AnyE call ops is n listed fr m (fr', m') → St σ ρ B w0 nt E m w fr a →
      Then σ ρ B w0 nt E m.length fr' m' (Q .normal) → wpAny P .any ops Q n listed a w
  | 0, listed, E, m, m', w, fr, fr', a, he, h, hK => by
    obtain ⟨h1, h2⟩ := he
    cases h2
    exact ⟨h1, hK E a w (Agree.refl _ _) (Nat.le_refl _) h⟩
  | n + 1, listed, E, m, m', w, fr, fr', a, he, h, hK => by
    obtain ⟨h1, h2⟩ := he
    refine ⟨fun hr => ?_, fun i hi => ?_⟩
    · cases h1 hr
      exact hK E a w (Agree.refl _ _) (Nat.le_refl _) h
    · obtain ⟨ii, fr1, m1, q1, q2, q3⟩ := h2 i hi
      obtain ⟨_, o, ho, _⟩ := mem_ready.1 hi
      unfold wpOp
      simp only [ho]
      exact step_ok h hcall (his i ii o q1 ho) q2 (fun E1 a1 w1 h1 h2 h3 => any_sound hcall his n _ q3 h3 (hK.of h1 h2))

theorem cIs_get : ∀ {l : List Oper} {is : List I}, cIs ρ P nt ops l = some is → ∀ (i : Nat) (ii : I) (o : Oper), is[i]? = some ii → l[i]? = some o → cI ρ P nt ops o = some ii
  | [], is, h, i, ii, o, h1, h2 => by simp at h2
  | x :: r, is, h, i, ii, o, h1, h2 => by
    simp only [cIs] at h
    split at h
    case h_2 => cases h
    rename_i j js hj hjs
    cases h
    cases i with
    | zero => simp at h1 h2; subst h1; subst h2; exact hj
    | succ i => exact cIs_get hjs i ii o (by simpa using h1) (by simpa using h2)

theorem pairs_pw {bs : List (List Nat)} : ∀ {L : List T}, pairsT bs L = true → L.Pairwise fun x y => condT bs x y = true
  | [], _ => List.Pairwise.nil
  | x :: r, h => by
    simp only [pairsT, Bool.and_eq_true] at h
    exact List.Pairwise.cons (fun y hy => List.all_eq_true.1 h.1 y hy) (pairs_pw h.2)

theorem chkAt_wf : ∀ {L : List T} {done : List Nat}, chkAt L done = true → ∀ A y C, L = A ++ y :: C → ∀ k ∈ y.chk, k.1 ∈ done ∨ k.1 ∈ A.map T.idx
  | [], done, _, A, y, C, hA, _, _ => by simp at hA
  | x :: r, done, h, A, y, C, hA, k, hk => by
    simp only [chkAt, Bool.and_eq_true, List.all_eq_true, List.contains_eq_mem, decide_eq_true_eq] at h
    cases A with
    | nil =>
      simp only [List.nil_append, List.cons.injEq] at hA
      obtain ⟨rfl, rfl⟩ := hA
      exact .inl (h.1 k hk)
    | cons z A =>
      simp only [List.cons_append, List.cons.injEq] at hA
      obtain ⟨rfl, rfl⟩ := hA
      rcases chkAt_wf h.2 A y C rfl k hk with h1 | h1
      · rcases List.mem_cons.1 h1 with h1 | h1
        · exact .inr (by simp [h1])
        · exact .inl h1
      · exact .inr (by simp only [List.map_cons, List.mem_cons]; exact .inr h1)

theorem cDraw_ok (hcall : CallEnv P σ B w0 call) {l : List DI} (hc : cDraw ρ P nt ops = some l) {E : Emb} {m m' : Mem} {w : World} {fr fr' : Fr} {a : Act} (he : dopsE call l fr m = some (fr', m'))
    (h : St σ ρ B w0 nt E m w fr a) {Q : Exit → Act → World → Prop} (hK : Then σ ρ B w0 nt E m.length fr' m' (Q .normal)) (id : Nat) : (Code.region id ops true).wp P Q a w := by
  unfold cDraw at hc
  split at hc
  · cases hc
  rename_i hm
  split at hc
  · cases hc
  rename_i is his
  dsimp only at hc
  split at hc
  case isFalse => cases hc
  rename_i hok
  cases hc
  simp only [Bool.and_eq_true] at hok
  obtain ⟨hdraw, hits⟩ := hok
  unfold drawOk at hdraw
  simp only [Bool.and_eq_true, beq_iff_eq] at hdraw
  generalize hL : items (befs ops ops.toList []) is [] (greedy ops is ops.size []) = L at *
  generalize befs ops ops.toList [] = bs at *
  obtain ⟨⟨⟨⟨⟨⟨⟨d1, d2⟩, d3⟩, d4⟩, d5⟩, d6⟩, d7⟩, d8⟩ := hdraw
  have hinv : Inv bs ops is (Array.replicate ops.size false) L := by
    refine ⟨by simp, fun i hi => ?_, fun t ht => ?_, fun i hi => ?_, pairs_pw d4, fun y hy k hk => ?_, fun A y C hA k hk => ?_, fun t ht => ?_, fun t ht hne => ?_⟩
    · constructor
      · intro _
        have := List.all_eq_true.1 d2 i (List.mem_range.2 hi)
        obtain ⟨t, ht, hti⟩ := List.any_eq_true.1 this
        exact List.mem_map.2 ⟨t, ht, by simpa using hti⟩
      · intro _ hq
        unfold Lst at hq
        simp [hi] at hq
    · simpa using List.all_eq_true.1 d5 t ht
    · unfold Lst at hi
      rw [Array.getD_eq_getD_getElem?, Array.getElem?_replicate] at hi
      split at hi <;> simp at hi
    · have := List.all_eq_true.1 (List.all_eq_true.1 d7 y hy) k hk
      simp only [Bool.and_eq_true, beq_iff_eq] at this
      exact ⟨this.1.1.1, this.1.1.2, this.1.2, fun z hz => List.all_eq_true.1 this.2 z hz⟩
    · rcases chkAt_wf d8 A y C hA k hk with h1 | h1
      · simp at h1
      · exact .inr h1
    · have := List.all_eq_true.1 hits t ht
      simp only [Bool.and_eq_true, beq_iff_eq] at this
      exact this.2
    · have := List.all_eq_true.1 d6 t ht
      simp only [Bool.or_eq_true, beq_iff_eq, List.isEmpty_iff] at this
      exact this.resolve_left hne
  have hany := any_of (call := call) (bs := bs) (is := is) d3 L.length L (Array.replicate ops.size false) fr m (fr', m') rfl hinv he
  rw [d1] at hany
  refine wp_region_any (by simpa using hm) ?_
  exact any_sound hcall (fun i ii o h1 h2 => cIs_get his i ii o h1 (by simpa using h2)) ops.size _ hany ⟨h.fm, h.sim.drew, h.fr, h.df⟩ hK

/-! ### Code -/
def ExR : Ex → Exit → Prop
  | .nrm, .normal => True
  | .exit i, .exit j => i = j
  | .ret, .ret => True
  | _, _ => False

def Ends (σ : Nat → Nat) (ρ : Nat → Option Nat) (B : Nat) (w0 : World) (nt : Nat) (E : Emb) (n : Nat) (ex : Ex) (fr' : Fr) (m' : Mem) (e : Exit) (a : Act) (w : World) : Prop :=
  ExR ex e ∧ ∃ E', Agree n E E' ∧ n ≤ m'.length ∧ St σ ρ B w0 nt E' m' w fr' a

theorem Ends.of {E E' : Emb} {n n' : Nat} {ex : Ex} {fr' : Fr} {m' : Mem} {e : Exit} {a : Act} {w : World} (h : Ends σ ρ B w0 nt E' n' ex fr' m' e a w) (ha : Agree n E E') (hn : n ≤ n') : Ends σ ρ B w0 nt E n ex fr' m' e a w := by
  obtain ⟨h1, E2, h2, h3, h4⟩ := h
  exact ⟨h1, E2, ha.trans h2 hn, Nat.le_trans hn h3, h4⟩

structure EnvOk (P : Program) (σ : Nat → Nat) (ρ : Nat → Option Nat) (G : Env) : Prop where
  fm : FnMap σ ρ
  code : ∀ g fn, G g = some (.code fn) → ∃ f, P.funcs[σ g]? = some f ∧ cFn ρ P f = some fn
  prim : ∀ g p, G g = some (.prim p) → ∀ B w0 args m v m', p args m = some (v, m') → CallsSim P σ B w0 g args m v m'

/-- The body of a loop, from the head of a round on. -/
def LoopFrom (P : Program) (c : Code) (Q : Exit → Act → World → Prop) (a : Act) (w : World) : Prop :=
  ∀ (b : Frame) (k : List Item) (cs : List Frame), ∃ e a' w', Q e a' w' ∧ Arrives P (lone (b.at a (.code c :: .inLoop c :: k)) cs w) b k cs e a' w'

def AllK (P : Program) (σ : Nat → Nat) (ρ : Nat → Option Nat) (B : Nat) (w0 : World) (G : Env) (k : Nat) : Prop :=
  (∀ (c : Code) (nt : Nat) (ic : IC) (E : Emb) (m m' : Mem) (w : World) (fr fr' : Fr) (a : Act) (ex : Ex), cCode ρ P nt c = some ic → exec G k ic fr m = some (ex, fr', m') → St σ ρ B w0 nt E m w fr a →
    c.wp P (Ends σ ρ B w0 nt E m.length ex fr' m') a w) ∧
  (∀ (c : Code) (nt : Nat) (ic : IC) (E : Emb) (m m' : Mem) (w : World) (fr fr' : Fr) (a : Act) (ex : Ex), cCode ρ P nt c = some ic → exec G k (.loop ic) fr m = some (ex, fr', m') → St σ ρ B w0 nt E m w fr a →
    LoopFrom P c (Ends σ ρ B w0 nt E m.length ex fr' m') a w) ∧
  CallEnv P σ B w0 (run G k)

theorem fget_args : ∀ (args : List V) (i : Nat), fget args i = (args[i]?).getD .z
  | [], i => by simp [fget]
  | x :: r, 0 => rfl
  | x :: r, i + 1 => by simp only [fget]; rw [fget_args r i]; simp

theorem St.enter (hfm : FnMap σ ρ) {E : Emb} {m : Mem} {w : World} (hs : Sim σ B w0 E m w) {args : List V} (hok : ∀ x ∈ args, V.ok m.length x) (nt : Nat) :
    St σ ρ B w0 nt E m w args { tmps := (args.map (cV σ E)).toArray ++ Array.replicate (nt - (args.map (cV σ E)).toArray.size) undef, defers := [] } := by
  refine ⟨hfm, hs, ⟨?_, fun i => ?_, fun i => ?_⟩, rfl⟩
  · simp; omega
  · rw [fget_args, Array.getD_eq_getD_getElem?]
    by_cases hi : i < args.length
    · rw [Array.getElem?_append_left (by simpa using hi)]
      simp [hi]
    · rw [List.getElem?_eq_none (by omega), Array.getElem?_append_right (by simp; omega), Array.getElem?_replicate]
      split <;> rfl
  · rw [fget_args]
    by_cases hi : i < args.length
    · rw [List.getElem?_eq_getElem hi]
      exact hok _ (List.getElem_mem hi)
    · rw [List.getElem?_eq_none (by omega)]
      trivial

def resM (tmps : Array Value) (r : ResultVar) : Sem Value := match r with
  | .tmp t => pure (tmps.getD t undef)
  | .cell a t => do loadVar t (← asAddr (tmps.getD a undef))

theorem results_eq (f : Func) (tmps : Array Value) : results f tmps = (do let vs ← f.results.mapM (resM tmps); pure (if h : vs.size = 1 then vs[0] else .tuple vs)) := rfl

theorem resU_ok {E : Emb} {m : Mem} {w : World} {fr : Fr} {a : Act} (h : St σ ρ B w0 nt E m w fr a) {r : ResultVar} {rs : List ResultVar} {l : List Rv} (hc : cRes P (r :: rs) = some l) :
    ∃ rv l', l = rv :: l' ∧ cRes P rs = some l' ∧ ∀ u, resU fr m rv = some u →
      (resM a.tmps r).run P w = .ok (cU σ E u) w ∧ u.ok m.length := by
  cases r with
  | tmp t =>
    simp only [cRes] at hc
    obtain ⟨l', hl, rfl⟩ := Option.map_eq_some_iff.1 hc
    refine ⟨_, l', rfl, hl, fun u hu => ?_⟩
    have h1 := h.fr.val t
    have h2 := h.fr.ok t
    rw [toU_some hu] at h1 h2
    exact ⟨by simp only [resM, h1]; rfl, h2⟩
  | cell s t =>
    simp only [cRes] at hc
    split at hc
    case h_3 => cases hc
    · rename_i n l' hg hn hl
      cases hc
      refine ⟨_, l', rfl, hl, fun u hu => ?_⟩
      simp only [resU] at hu
      split at hu
      case h_2 => cases hu
      rename_i b of hv
      split at hu
      case h_2 => cases hu
      rename_i cs hcs
      simp only [if_true, Option.some.injEq] at hu
      subst hu
      have h1 := h.fr.val s
      rw [toA_some hv] at h1
      obtain ⟨h2, h3, h4⟩ := h.sim.rd (P := P) hcs
      refine ⟨?_, h4⟩
      simp only [resM, h1, cV, cU, cA, asAddr, Sem.run_bind, Sem.run_pure, Result.andThen_ok, loadVar, run_agg hg, if_true, run_size hn, h2]
    · rename_i n l' hg hn hl
      cases hc
      refine ⟨_, l', rfl, hl, fun u hu => ?_⟩
      simp only [resU] at hu
      split at hu
      case h_2 => cases hu
      rename_i b of hv
      split at hu
      case h_2 => cases hu
      rename_i cs hcs
      simp only [Bool.false_eq_true, if_false] at hu
      split at hu
      case h_2 => cases hu
      rename_i c
      cases hu
      have h1 := h.fr.val s
      rw [toA_some hv] at h1
      obtain ⟨h5, h6⟩ := h.sim.rd_one hcs
      refine ⟨?_, h6⟩
      simp [resM, h1, cV, cU, cA, asAddr, loadVar, run_agg hg, h5]

theorem resL_ok {E : Emb} {m : Mem} {w : World} {fr : Fr} {a : Act} (h : St σ ρ B w0 nt E m w fr a) : ∀ {rs : List ResultVar} {l : List Rv} {us : List U}, cRes P rs = some l → resL fr m l = some us →
    (rs.mapM (resM a.tmps)).run P w = .ok (us.map (cU σ E)) w ∧ ∀ u ∈ us, U.ok m.length u
  | [], l, us, hc, hu => by
    cases hc
    simp only [resL, Option.some.injEq] at hu
    subst hu
    exact ⟨by simp [Sem.run_pure], by simp⟩
  | r :: rs, l, us, hc, hu => by
    obtain ⟨rv, l', rfl, hl, hr⟩ := resU_ok h hc
    simp only [resL] at hu
    split at hu
    case h_2 => cases hu
    rename_i u us' h1 h2
    cases hu
    obtain ⟨q1, q2⟩ := hr u h1
    obtain ⟨q3, q4⟩ := resL_ok h hl h2
    refine ⟨?_, fun x hx => ?_⟩
    · rw [List.mapM_cons]
      simp only [Sem.run_bind]
      rw [q1]
      simp only [Result.andThen_ok]
      rw [q3]
      simp
    · rcases List.mem_cons.1 hx with rfl | hx
      · exact q2
      · exact q4 x hx

theorem resE_ok {E : Emb} {m : Mem} {w : World} {fr : Fr} {a : Act} (h : St σ ρ B w0 nt E m w fr a) {f : Func} {l : List Rv} {v : V} (hc : cRes P f.results.toList = some l) (hv : resE fr m l = some v) :
    (results f a.tmps).run P w = .ok (cV σ E v) w ∧ v.ok m.length := by
  unfold resE at hv
  have key : ∀ us, resL fr m l = some us → (results f a.tmps).run P w = .ok (if h : ((us.map (cU σ E)).toArray).size = 1 then ((us.map (cU σ E)).toArray)[0] else .tuple (us.map (cU σ E)).toArray) w ∧ ∀ u ∈ us, U.ok m.length u := by
    intro us hus
    obtain ⟨h1, h2⟩ := resL_ok h hc hus
    refine ⟨?_, h2⟩
    rw [results_eq, Array.mapM_eq_mapM_toList]
    simp only [Sem.run_bind, Sem.run_map, h1, Result.andThen_ok, Sem.run_pure]
  split at hv
  · rename_i u hu
    cases hv
    obtain ⟨h1, h2⟩ := key _ hu
    exact ⟨by rw [h1]; simp [cV], h2 u (by simp)⟩
  · rename_i us hne hu
    cases hv
    obtain ⟨h1, h2⟩ := key _ hu
    refine ⟨?_, h2⟩
    rw [h1]
    have : ¬ ((us.map (cU σ E)).toArray.size = 1) := by
      intro hl
      simp only [List.size_toArray, List.length_map] at hl
      obtain ⟨u, rfl⟩ := List.length_eq_one_iff.1 hl
      first | exact hne u rfl | exact hne u hu
    rw [dif_neg this]
    rfl
  · cases hv

theorem ends_nrm {E : Emb} {n : Nat} {fr : Fr} {m : Mem} {e : Exit} {a : Act} {w : World} (h : Ends σ ρ B w0 nt E n .nrm fr m e a w) : e = .normal := by
  obtain ⟨h1, _⟩ := h
  cases e <;> simp [ExR] at h1 <;> rfl

theorem allK (B : Nat) (w0 : World) (hE : EnvOk P σ ρ G) : ∀ k, AllK P σ ρ B w0 G k
  | 0 => by
    refine ⟨fun c nt ic E m m' w fr fr' a ex hc he h => ?_, fun c nt ic E m m' w fr fr' a ex hc he h => ?_, fun g args m v m' he => ?_⟩
    · simp [exec] at he
    · simp [exec] at he
    · simp [run] at he
  | k + 1 => by
    obtain ⟨ihC, ihL, ihR⟩ := allK B w0 hE k
    refine ⟨fun c nt ic E m m' w fr fr' a ex hc he h => ?_, fun c nt ic E m m' w fr fr' a ex hc he h => ?_, fun g args m v m' he => ?_⟩
    · -- code
      cases c with
      | skip =>
        cases hc
        simp only [exec, Option.some.injEq, Prod.mk.injEq] at he
        obtain ⟨rfl, rfl, rfl⟩ := he
        exact wp_skip ⟨trivial, E, Agree.refl _ _, Nat.le_refl _, h⟩
      | region id ops draw =>
        cases draw with
        | false =>
          simp only [cCode] at hc
          obtain ⟨is, his, rfl⟩ := Option.map_eq_some_iff.1 hc
          simp only [exec] at he
          split at he
          case h_2 => cases he
          rename_i fr1 m1 hops
          cases he
          refine wp_region ?_
          have := opsE_ok (P := P) ihR (Q := Ends σ ρ B w0 nt E m.length .nrm fr' m') ops.toList 0 (by simp) his hops h (fun E' a' w' h1 h2 h3 => ⟨trivial, E', h1, h2, h3⟩)
          rwa [List.range_eq_range', ← Array.length_toList]
        | true =>
          simp only [cCode, Option.some.injEq] at hc
          split at hc
          · rename_i l hl
            subst hc
            simp only [exec] at he
            split at he
            case h_2 => cases he
            rename_i fr1 m1 hops
            cases he
            exact cDraw_ok ihR hl hops h (fun E' a' w' h1 h2 h3 => ⟨trivial, E', h1, h2, h3⟩) id
          · subst hc; simp [exec] at he
      | seq x y =>
        simp only [cCode] at hc
        split at hc
        case h_2 => cases hc
        rename_i x' y' hx hy
        cases hc
        simp only [exec] at he
        split at he
        · rename_i fr1 m1 h1
          refine wp_seq (wp_mono (ihC x nt x' E m m1 w fr fr1 a .nrm hx h1 h) fun e a1 w1 hq => ?_)
          obtain rfl := ends_nrm hq
          obtain ⟨_, E1, g1, g2, g3⟩ := hq
          exact wp_mono (ihC y nt y' E1 m1 m' w1 fr1 fr' a1 ex hy he g3) fun e a2 w2 hq => hq.of g1 g2
        · rename_i hno
          refine wp_seq (wp_mono (ihC x nt x' E m m' w fr fr' a ex hx he h) fun e a1 w1 hq => ?_)
          have hne : e ≠ .normal := by
            rintro rfl
            have := hq.1
            cases ex <;> simp [ExR] at this
            exact hno _ _ he
          cases e <;> first | exact absurd rfl hne | exact hq
      | cond c x y =>
        simp only [cCode] at hc
        split at hc
        case h_2 => cases hc
        rename_i c' x' y' hcc hx hy
        cases hc
        simp only [exec] at he
        split at he
        case h_2 => cases he
        rename_i t ht
        obtain ⟨h1, _⟩ := cX_ok h hcc
        rw [ht] at h1
        refine wp_cond (t := t) h1 ?_
        cases t
        · exact ihC y nt y' E m m' w fr fr' a ex hy he h
        · exact ihC x nt x' E m m' w fr fr' a ex hx he h
      | block id x =>
        simp only [cCode] at hc
        obtain ⟨x', hx, rfl⟩ := Option.map_eq_some_iff.1 hc
        simp only [exec] at he
        split at he
        · rename_i j fr1 m1 h1
          cases he
          refine wp_block (wp_mono (ihC x nt x' E m m' w fr fr' a (.exit j) hx h1 h) fun e a1 w1 hq => ?_)
          have := hq.1
          cases e <;> simp [ExR] at this
          subst this
          simp only [Exit.inBlock]
          split
          · rename_i hj
            exact ⟨by simp [hj, ExR], hq.2⟩
          · rename_i hj
            exact ⟨by simp [hj, ExR], hq.2⟩
        · rename_i hno
          refine wp_block (wp_mono (ihC x nt x' E m m' w fr fr' a ex hx he h) fun e a1 w1 hq => ?_)
          have h1 := hq.1
          cases e <;> cases ex <;> simp [ExR] at h1 <;> first | exact absurd he (hno _ _ _) | exact hq
      | loop x =>
        simp only [cCode] at hc
        obtain ⟨x', hx, rfl⟩ := Option.map_eq_some_iff.1 hc
        intro b kk cs
        -- the first round, as in the second claim
        simp only [exec] at he
        have key : LoopFrom P x (Ends σ ρ B w0 nt E m.length ex fr' m') a w := by
          intro b kk cs
          split at he
          · rename_i fr1 m1 h1
            obtain ⟨e, a1, w1, hq, harr⟩ := ihC x nt x' E m m1 w fr fr1 a .nrm hx h1 h b (.inLoop x :: kk) cs
            obtain rfl := ends_nrm hq
            obtain ⟨_, E1, g1, g2, g3⟩ := hq
            obtain ⟨e2, a2, w2, hq2, harr2⟩ := ihL x nt x' E1 m1 m' w1 fr1 fr' a1 ex hx he g3 b kk cs
            exact ⟨e2, a2, w2, hq2.of g1 g2, .of_steps (Steps.trans harr (.one step_inLoop)) harr2⟩
          · rename_i hno
            obtain ⟨e, a1, w1, hq, harr⟩ := ihC x nt x' E m m' w fr fr' a ex hx he h b (.inLoop x :: kk) cs
            have hne : e ≠ .normal := by
              rintro rfl
              have := hq.1
              cases ex <;> simp [ExR] at this
              exact hno _ _ he
            exact ⟨e, a1, w1, hq, .pass (x := .inLoop x) rfl (fun _ _ => .inl hne) harr⟩
        obtain ⟨e, a1, w1, hq, harr⟩ := key b kk cs
        exact ⟨e, a1, w1, hq, .of_steps (.one step_loop) harr⟩
      | exit id =>
        cases hc
        simp only [exec, Option.some.injEq, Prod.mk.injEq] at he
        obtain ⟨rfl, rfl, rfl⟩ := he
        exact wp_exit ⟨rfl, E, Agree.refl _ _, Nat.le_refl _, h⟩
      | ret =>
        cases hc
        simp only [exec, Option.some.injEq, Prod.mk.injEq] at he
        obtain ⟨rfl, rfl, rfl⟩ := he
        exact wp_ret ⟨trivial, E, Agree.refl _ _, Nat.le_refl _, h⟩
      | _ => cases hc; simp [exec] at he
    · -- a loop, from the head of a round on
      intro b kk cs
      simp only [exec] at he
      split at he
      · rename_i fr1 m1 h1
        obtain ⟨e, a1, w1, hq, harr⟩ := ihC c nt ic E m m1 w fr fr1 a .nrm hc h1 h b (.inLoop c :: kk) cs
        obtain rfl := ends_nrm hq
        obtain ⟨_, E1, g1, g2, g3⟩ := hq
        obtain ⟨e2, a2, w2, hq2, harr2⟩ := ihL c nt ic E1 m1 m' w1 fr1 fr' a1 ex hc he g3 b kk cs
        exact ⟨e2, a2, w2, hq2.of g1 g2, .of_steps (Steps.trans harr (.one step_inLoop)) harr2⟩
      · rename_i hno
        obtain ⟨e, a1, w1, hq, harr⟩ := ihC c nt ic E m m' w fr fr' a ex hc he h b (.inLoop c :: kk) cs
        have hne : e ≠ .normal := by
          rintro rfl
          have := hq.1
          cases ex <;> simp [ExR] at this
          exact hno _ _ he
        exact ⟨e, a1, w1, hq, .pass (x := .inLoop c) rfl (fun _ _ => .inl hne) harr⟩
    · -- a call
      simp only [run] at he
      split at he
      · cases he
      · rename_i p hp
        exact hE.prim g p hp B w0 args m v m' he
      · rename_i fn hfn
        obtain ⟨f, hf, hcf⟩ := hE.code g fn hfn
        unfold cFn at hcf
        split at hcf
        · cases hcf
        rename_i hname
        split at hcf
        case h_2 => cases hcf
        rename_i c rs hbody hres
        obtain ⟨ic, hic, rfl⟩ := Option.map_eq_some_iff.1 hcf
        refine ⟨⟨f, hf, by simpa using hname, by rw [hbody]; rfl⟩, fun E w hs hok => ?_⟩
        refine calls_of_wp hf hbody ?_
        have hst := St.enter (σ := σ) (ρ := ρ) hE.fm hs hok f.ntmps
        have fin : ∀ {ex : Ex} {fr : Fr} {m1 : Mem}, exec G k ic args m = some (ex, fr, m1) → (ex = .nrm ∨ ex = .ret) → (resE fr m1 rs).map (fun v => (v, m1)) = some (v, m') →
            c.wp P (bodyPost P f fun e w' => ∃ E', Agree m.length E E' ∧ m.length ≤ m'.length ∧ Sim σ B w0 E' m' w' ∧ v.ok m'.length ∧ e = .returned (cV σ E' v))
              { tmps := (args.map (cV σ E)).toArray ++ Array.replicate (f.ntmps - (args.map (cV σ E)).toArray.size) undef, defers := [] } w := by
          intro ex fr m1 hex hcase hr
          obtain ⟨v', hv', hvv⟩ := Option.map_eq_some_iff.1 hr
          cases hvv
          refine wp_mono (ihC c f.ntmps ic E m m' w args fr _ ex hic hex hst) fun e a1 w1 hq => ?_
          obtain ⟨h1, E1, g1, g2, g3⟩ := hq
          obtain ⟨q1, q2⟩ := resE_ok g3 hres hv'
          have : e = .normal ∨ e = .ret := by
            rcases hcase with rfl | rfl <;> cases e <;> simp [ExR] at h1 <;> simp
          rcases this with rfl | rfl <;> exact ⟨g3.df, _, q1, E1, g1, g2, g3.sim, q2, rfl⟩
        split at he
        · rename_i fr m1 hex; exact fin hex (.inl rfl) he
        · rename_i fr m1 hex; exact fin hex (.inr rfl) he
        · cases he

/-- **What the interpreter answers, the model returns.** -/
theorem run_sound (hE : EnvOk P σ ρ G) {k g : Nat} {args : List V} {m m' : Mem} {v : V} (he : run G k g args m = some (v, m')) : CallsSim P σ B w0 g args m v m' :=
  (allK B w0 hE k).2.2 g args m v m' he


end Go.AL
