/-
  The rules of the interpreter as equations, for the simplifier.
-/
import Derived.Test.YtaamjlckaakenaaAlW
namespace Go.AL
set_option linter.unusedSimpArgs false
set_option linter.unusedVariables false

/-- A token whose type names what the simplifier is not to look into. -/
inductive Tp {α : Type} (P : α → Prop) : Type where
  | mk
inductive Tg (A B : Prop) : Type where
  | mk
def satT {α : Type} (x : Option α) (P : α → Prop) (_ : Tp P) : Prop := match x with
  | some a => P a
  | none => False
theorem y53 {α : Type} {a : α} {P : α → Prop} : satT (some a) P .mk = P a := rfl
theorem y54 {α : Type} {P : α → Prop} : satT none P .mk = False := rfl

def O.isCall : O → Bool
  | .call _ _ | .callv _ _ => true
  | _ => false

theorem opE_call {c c' : CallE} {fr : Fr} {m : Mem} {o : O} (h : o.isCall = false) : opE c fr m o = opE c' fr m o := by
  cases o <;> first | rfl | cases h

variable {G : Env} {K : Fr → Mem → Prop} {fr : Fr} {m : Mem} {d : Option Nat} {r : List I}

theorem wo_op {o : O} (h : o.isCall = false) : Wo G (⟨d, o, none⟩ :: r) K fr m = satT (opE nc fr m o) (fun p => Wo G r K (put fr d p.1) p.2) .mk := by
  apply propext
  constructor
  · rintro ⟨k, f, n, h1, h2⟩
    unfold opsE stepE stepV at h1
    simp only [wanted] at h1
    rw [opE_call (c' := nc) h] at h1
    cases hq : opE nc fr m o with
    | none => rw [hq] at h1; cases h1
    | some p => rw [hq] at h1; exact ⟨k, f, n, h1, h2⟩
  · intro hs
    cases hq : opE nc fr m o with
    | none => rw [hq] at hs; exact hs.elim
    | some p => rw [hq] at hs; exact Wo.op hq hs

def wgT (v : V) (t : Bool) (A B : Prop) (_ : Tg A B) : Prop := match v with
  | .u (.a (.bool b)) => if b = t then A else B
  | .z => B
  | _ => False
/-- A branch that is not yet decided. -/
def gifT (c : Bool) (A B : Prop) (_ : Tg A B) : Prop := (c = true → A) ∧ (c = false → B)
theorem y75 {A B : Prop} : gifT true A B .mk = A := by simp [gifT]
theorem y76 {A B : Prop} : gifT false A B .mk = B := by simp [gifT]
theorem y55 {b : Bool} {A B : Prop} : wgT (V.b b) true A B .mk = gifT b A B .mk := by cases b <;> simp [wgT, gifT]
theorem y56 {b : Bool} {A B : Prop} : wgT (V.b b) false A B .mk = gifT b B A .mk := by cases b <;> simp [wgT, gifT]
theorem y57 {t : Bool} {A B : Prop} : wgT .z t A B .mk = B := rfl

theorem y1 {o : O} {j : Nat} {t : Bool} : Wo G (⟨d, o, some (j, t)⟩ :: r) K fr m = wgT (fget fr j) t (Wo G (⟨d, o, none⟩ :: r) K fr m) (Wo G r K (put fr d .z) m) .mk := by
  apply propext
  constructor
  · rintro ⟨k, f, n, h1, h2⟩
    unfold opsE stepE stepV at h1
    simp only [wanted] at h1
    unfold wgT
    split
    · rename_i b hb
      rw [hb] at h1
      simp only at h1
      by_cases hbt : b = t
      · rw [if_pos hbt]
        refine ⟨k, f, n, ?_, h2⟩
        unfold opsE stepE stepV
        simp only [wanted]
        rw [show (b == t) = true by simpa using hbt] at h1
        exact h1
      · rw [if_neg hbt]
        rw [show (b == t) = false by simpa using hbt] at h1
        exact ⟨k, f, n, h1, h2⟩
    · rename_i hb
      rw [hb] at h1
      exact ⟨k, f, n, h1, h2⟩
    · rename_i h3 h4
      exfalso
      have hw : wanted fr (some (j, t)) = none := by
        unfold wanted
        dsimp only
        split
        · rename_i b hb; exact (h3 b hb).elim
        · rename_i hb; exact (h4 hb).elim
        · rfl
      unfold wanted at hw
      dsimp only at hw
      rw [hw] at h1
      cases h1
  · intro h
    unfold wgT at h
    split at h
    · rename_i b hb
      refine Wo.gd hb (fun h1 => by rwa [if_pos h1] at h) (fun h1 => by rwa [if_neg h1] at h)
    · rename_i hb; exact Wo.gz hb h
    · exact h.elim

theorem y0 : Wo G [] K fr m = K fr m := by
  apply propext
  constructor
  · rintro ⟨k, f, n, h1, h2⟩; cases h1; exact h2
  · exact Wo.nil

theorem wd_cons0 {i : I} {l : List DI} (h : i.op.cls = 2) : Wd G (⟨i, []⟩ :: l) K fr m = Wo G [i] (fun f n => Wd G l K f n) fr m := by
  apply propext
  constructor
  · rintro ⟨k, f, n, h1, h2⟩
    unfold dopsE at h1
    cases hs : stepE (run G k) fr m i with
    | none => rw [hs] at h1; cases h1
    | some p =>
      rw [hs] at h1
      simp only [h, true_or, List.all_nil, and_self, if_true] at h1
      exact ⟨k, p.1, p.2, by simp only [opsE, hs], k, f, n, h1, h2⟩
  · intro hw
    refine Wd.cons rfl ?_
    obtain ⟨k, f, n, h1, h2⟩ := hw
    exact ⟨k, f, n, h1, .inl h, h2⟩

section
theorem y2 {x : X} : Wo G (⟨d, .mov x, none⟩ :: r) K fr m = satT (opE nc fr m (.mov x)) (fun p => Wo G r K (put fr d p.1) p.2) .mk := wo_op rfl
theorem y3 {c : X} {a : X} {b : X} : Wo G (⟨d, .pick c a b, none⟩ :: r) K fr m = satT (opE nc fr m (.pick c a b)) (fun p => Wo G r K (put fr d p.1) p.2) .mk := wo_op rfl
theorem y4 {z : List A} : Wo G (⟨d, .alloc z, none⟩ :: r) K fr m = satT (opE nc fr m (.alloc z)) (fun p => Wo G r K (put fr d p.1) p.2) .mk := wo_op rfl
theorem y5 {x : X} : Wo G (⟨d, .box x, none⟩ :: r) K fr m = satT (opE nc fr m (.box x)) (fun p => Wo G r K (put fr d p.1) p.2) .mk := wo_op rfl
theorem y6 {z : List A} {ps : List (Nat × Nat × X)} : Wo G (⟨d, .build z ps, none⟩ :: r) K fr m = satT (opE nc fr m (.build z ps)) (fun p => Wo G r K (put fr d p.1) p.2) .mk := wo_op rfl
theorem y7 {z : List A} {n : Nat} {ps : List (Nat × Nat × X)} : Wo G (⟨d, .lit z n ps, none⟩ :: r) K fr m = satT (opE nc fr m (.lit z n ps)) (fun p => Wo G r K (put fr d p.1) p.2) .mk := wo_op rfl
theorem y8 {g : Bool} {n : Nat} {x : X} : Wo G (⟨d, .load g n x, none⟩ :: r) K fr m = satT (opE nc fr m (.load g n x)) (fun p => Wo G r K (put fr d p.1) p.2) .mk := wo_op rfl
theorem y9 {n : Nat} {x : X} {y : X} : Wo G (⟨d, .store n x y, none⟩ :: r) K fr m = satT (opE nc fr m (.store n x y)) (fun p => Wo G r K (put fr d p.1) p.2) .mk := wo_op rfl
theorem y10 {x : X} : Wo G (⟨d, .nilc x, none⟩ :: r) K fr m = satT (opE nc fr m (.nilc x)) (fun p => Wo G r K (put fr d p.1) p.2) .mk := wo_op rfl
theorem y11 {op : BinOp} {x : X} {y : X} : Wo G (⟨d, .bin op x y, none⟩ :: r) K fr m = satT (opE nc fr m (.bin op x y)) (fun p => Wo G r K (put fr d p.1) p.2) .mk := wo_op rfl
theorem y12 {n : Bool} {x : X} {y : X} : Wo G (⟨d, .beq n x y, none⟩ :: r) K fr m = satT (opE nc fr m (.beq n x y)) (fun p => Wo G r K (put fr d p.1) p.2) .mk := wo_op rfl
theorem y13 {n : Bool} {x : X} {y : X} : Wo G (⟨d, .eqg n x y, none⟩ :: r) K fr m = satT (opE nc fr m (.eqg n x y)) (fun p => Wo G r K (put fr d p.1) p.2) .mk := wo_op rfl
theorem y14 {i : Bool} {n : Bool} {x : X} : Wo G (⟨d, .isn i n x, none⟩ :: r) K fr m = satT (opE nc fr m (.isn i n x)) (fun p => Wo G r K (put fr d p.1) p.2) .mk := wo_op rfl
theorem y15 {x : X} : Wo G (⟨d, .neg x, none⟩ :: r) K fr m = satT (opE nc fr m (.neg x)) (fun p => Wo G r K (put fr d p.1) p.2) .mk := wo_op rfl
theorem y16 {x : X} : Wo G (⟨d, .not x, none⟩ :: r) K fr m = satT (opE nc fr m (.not x)) (fun p => Wo G r K (put fr d p.1) p.2) .mk := wo_op rfl
theorem y17 {k : IntKind} {x : X} : Wo G (⟨d, .cvt k x, none⟩ :: r) K fr m = satT (opE nc fr m (.cvt k x)) (fun p => Wo G r K (put fr d p.1) p.2) .mk := wo_op rfl
theorem y18 {x : X} : Wo G (⟨d, .s2b x, none⟩ :: r) K fr m = satT (opE nc fr m (.s2b x)) (fun p => Wo G r K (put fr d p.1) p.2) .mk := wo_op rfl
theorem y19 {x : X} : Wo G (⟨d, .b2s x, none⟩ :: r) K fr m = satT (opE nc fr m (.b2s x)) (fun p => Wo G r K (put fr d p.1) p.2) .mk := wo_op rfl
theorem y20 {x : X} : Wo G (⟨d, .i2s x, none⟩ :: r) K fr m = satT (opE nc fr m (.i2s x)) (fun p => Wo G r K (put fr d p.1) p.2) .mk := wo_op rfl
theorem y21 {z : List A} {n : Nat} {x : X} {y : X} : Wo G (⟨d, .mk z n x y, none⟩ :: r) K fr m = satT (opE nc fr m (.mk z n x y)) (fun p => Wo G r K (put fr d p.1) p.2) .mk := wo_op rfl
theorem y22 {n : Nat} {x : X} {lo : Option X} {hi : Option X} {mx : Option X} : Wo G (⟨d, .slc n x lo hi mx, none⟩ :: r) K fr m = satT (opE nc fr m (.slc n x lo hi mx)) (fun p => Wo G r K (put fr d p.1) p.2) .mk := wo_op rfl
theorem y23 {x : X} {lo : Option X} {hi : Option X} : Wo G (⟨d, .sstr x lo hi, none⟩ :: r) K fr m = satT (opE nc fr m (.sstr x lo hi)) (fun p => Wo G r K (put fr d p.1) p.2) .mk := wo_op rfl
theorem y24 {n : Nat} {s : Nat} {x : X} {lo : Option X} {hi : Option X} : Wo G (⟨d, .sarr n s x lo hi, none⟩ :: r) K fr m = satT (opE nc fr m (.sarr n s x lo hi)) (fun p => Wo G r K (put fr d p.1) p.2) .mk := wo_op rfl
theorem y25 {n : Nat} {x : X} : Wo G (⟨d, .fadr n x, none⟩ :: r) K fr m = satT (opE nc fr m (.fadr n x)) (fun p => Wo G r K (put fr d p.1) p.2) .mk := wo_op rfl
theorem y26 {g : Bool} {o : Nat} {n : Nat} {x : X} : Wo G (⟨d, .fld g o n x, none⟩ :: r) K fr m = satT (opE nc fr m (.fld g o n x)) (fun p => Wo G r K (put fr d p.1) p.2) .mk := wo_op rfl
theorem y27 {s : Nat} {x : X} {i : X} : Wo G (⟨d, .ia s x i, none⟩ :: r) K fr m = satT (opE nc fr m (.ia s x i)) (fun p => Wo G r K (put fr d p.1) p.2) .mk := wo_op rfl
theorem y28 {n : Nat} {s : Nat} {x : X} {i : X} : Wo G (⟨d, .iap n s x i, none⟩ :: r) K fr m = satT (opE nc fr m (.iap n s x i)) (fun p => Wo G r K (put fr d p.1) p.2) .mk := wo_op rfl
theorem y29 {x : X} {i : X} : Wo G (⟨d, .ixs x i, none⟩ :: r) K fr m = satT (opE nc fr m (.ixs x i)) (fun p => Wo G r K (put fr d p.1) p.2) .mk := wo_op rfl
theorem y30 {n : Nat} {s : Nat} {g : Bool} {x : X} {i : X} : Wo G (⟨d, .ixa n s g x i, none⟩ :: r) K fr m = satT (opE nc fr m (.ixa n s g x i)) (fun p => Wo G r K (put fr d p.1) p.2) .mk := wo_op rfl
theorem y31 {x : X} : Wo G (⟨d, .rng x, none⟩ :: r) K fr m = satT (opE nc fr m (.rng x)) (fun p => Wo G r K (put fr d p.1) p.2) .mk := wo_op rfl
theorem y32 {x : X} : Wo G (⟨d, .nxt x, none⟩ :: r) K fr m = satT (opE nc fr m (.nxt x)) (fun p => Wo G r K (put fr d p.1) p.2) .mk := wo_op rfl
theorem y33 {x : X} {i : Nat} : Wo G (⟨d, .ext x i, none⟩ :: r) K fr m = satT (opE nc fr m (.ext x i)) (fun p => Wo G r K (put fr d p.1) p.2) .mk := wo_op rfl
theorem y34 {s : Nat} {b : Nat} {x : X} {y : X} : Wo G (⟨d, .app s b x y, none⟩ :: r) K fr m = satT (opE nc fr m (.app s b x y)) (fun p => Wo G r K (put fr d p.1) p.2) .mk := wo_op rfl
theorem y35 {x : X} : Wo G (⟨d, .len x, none⟩ :: r) K fr m = satT (opE nc fr m (.len x)) (fun p => Wo G r K (put fr d p.1) p.2) .mk := wo_op rfl
theorem y36 {x : X} : Wo G (⟨d, .lens x, none⟩ :: r) K fr m = satT (opE nc fr m (.lens x)) (fun p => Wo G r K (put fr d p.1) p.2) .mk := wo_op rfl
theorem y37 {x : X} {y : X} : Wo G (⟨d, .mn x y, none⟩ :: r) K fr m = satT (opE nc fr m (.mn x y)) (fun p => Wo G r K (put fr d p.1) p.2) .mk := wo_op rfl
theorem y38 {x : X} {y : X} : Wo G (⟨d, .mx x y, none⟩ :: r) K fr m = satT (opE nc fr m (.mx x y)) (fun p => Wo G r K (put fr d p.1) p.2) .mk := wo_op rfl
theorem y39 {s : Nat} {x : X} {y : X} : Wo G (⟨d, .cpy s x y, none⟩ :: r) K fr m = satT (opE nc fr m (.cpy s x y)) (fun p => Wo G r K (put fr d p.1) p.2) .mk := wo_op rfl
theorem y40 {z : List A} {x : X} : Wo G (⟨d, .clr z x, none⟩ :: r) K fr m = satT (opE nc fr m (.clr z x)) (fun p => Wo G r K (put fr d p.1) p.2) .mk := wo_op rfl
theorem y41 {f : Nat} {caps : List X} : Wo G (⟨d, .fnv f caps, none⟩ :: r) K fr m = satT (opE nc fr m (.fnv f caps)) (fun p => Wo G r K (put fr d p.1) p.2) .mk := wo_op rfl

theorem y50 {fr : Fr} {d : Nat} {v : V} : put fr (some d) v = fset fr d v := rfl
theorem y51 {fr : Fr} {v : V} : put fr none v = fr := rfl
theorem fget_lt {x : V} {l : Fr} : fget (x :: l) 0 = x := rfl
theorem e_mov {x : X} : opE nc fr m (.mov x) = some (ev fr x, m) := rfl
theorem y46 {i : Nat} : ev fr (.s i) = fget fr i := rfl
theorem y47 {v : V} : ev fr (.k v) = v := rfl
theorem y42 {i : Nat} : evA fr (.s i) = (fget fr i).toA := rfl
theorem y43 {v : V} : evA fr (.k v) = v.toA := rfl
theorem y44 {i : Nat} : evU fr (.s i) = (fget fr i).toU := rfl
theorem y45 {v : V} : evU fr (.k v) = v.toU := rfl
theorem y48 {x : A} : V.toA (.u (.a x)) = some x := rfl
theorem y49 {x : U} : V.toU (.u x) = some x := rfl

variable {Q : Ex → Fr → Mem → Prop}
theorem y58 : Wc G .skip Q fr m = Q .nrm fr m := by
  apply propext
  refine ⟨fun ⟨k, e, f, n, h1, h2⟩ => ?_, Wc.skip⟩
  cases k with
  | zero => cases h1
  | succ k => cases h1; exact h2
theorem y59 {id : Nat} : Wc G (.exit id) Q fr m = Q (.exit id) fr m := by
  apply propext
  refine ⟨fun ⟨k, e, f, n, h1, h2⟩ => ?_, Wc.exit⟩
  cases k with
  | zero => cases h1
  | succ k => cases h1; exact h2
theorem y60 : Wc G .ret Q fr m = Q .ret fr m := by
  apply propext
  refine ⟨fun ⟨k, e, f, n, h1, h2⟩ => ?_, Wc.ret⟩
  cases k with
  | zero => cases h1
  | succ k => cases h1; exact h2
theorem y61 {l : List I} : Wc G (.ops l) Q fr m = Wo G l (fun f n => Q .nrm f n) fr m := by
  apply propext
  refine ⟨fun ⟨k, e, f, n, h1, h2⟩ => ?_, Wc.ops⟩
  cases k with
  | zero => cases h1
  | succ k =>
    rw [exec] at h1
    cases hs : opsE (run G k) l fr m with
    | none => rw [hs] at h1; cases h1
    | some p => rw [hs] at h1; cases h1; exact ⟨k, _, _, hs, h2⟩
theorem y62 {l : List DI} : Wc G (.dops l) Q fr m = Wd G l (fun f n => Q .nrm f n) fr m := by
  apply propext
  refine ⟨fun ⟨k, e, f, n, h1, h2⟩ => ?_, Wc.dops⟩
  cases k with
  | zero => cases h1
  | succ k =>
    rw [exec] at h1
    cases hs : dopsE (run G k) l fr m with
    | none => rw [hs] at h1; cases h1
    | some p => rw [hs] at h1; cases h1; exact ⟨k, _, _, hs, h2⟩
theorem y63 {x y : IC} : Wc G (.seq x y) Q fr m = Wc G x (Aft G y Q) fr m := by
  apply propext
  refine ⟨fun ⟨k, e, f, n, h1, h2⟩ => ?_, Wc.seq⟩
  cases k with
  | zero => cases h1
  | succ k =>
    rw [exec] at h1
    cases hs : exec G k x fr m with
    | none => rw [hs] at h1; cases h1
    | some p =>
      obtain ⟨e1, f1, n1⟩ := p
      rw [hs] at h1
      refine ⟨k, e1, f1, n1, hs, ?_⟩
      cases e1 with
      | nrm => exact ⟨k, e, f, n, h1, h2⟩
      | exit j => cases h1; exact h2
      | ret => cases h1; exact h2
theorem y64 {id : Nat} {x : IC} : Wc G (.block id x) Q fr m = Wc G x (Blkd id Q) fr m := by
  apply propext
  refine ⟨fun ⟨k, e, f, n, h1, h2⟩ => ?_, Wc.block⟩
  cases k with
  | zero => cases h1
  | succ k =>
    rw [exec] at h1
    cases hs : exec G k x fr m with
    | none => rw [hs] at h1; cases h1
    | some p =>
      obtain ⟨e1, f1, n1⟩ := p
      rw [hs] at h1
      refine ⟨k, e1, f1, n1, hs, ?_⟩
      cases e1 with
      | nrm => cases h1; exact h2
      | exit j =>
        cases h1
        simp only [Blkd]
        split
        · rename_i hj; rwa [if_pos hj] at h2
        · rename_i hj; rwa [if_neg hj] at h2
      | ret => cases h1; exact h2
def wcdT (v : V) (A B : Prop) (_ : Tg A B) : Prop := match v with
  | .u (.a (.bool b)) => gifT b A B .mk
  | _ => False
theorem y66 {b : Bool} {A B : Prop} : wcdT (V.b b) A B .mk = gifT b A B .mk := rfl
theorem y65 {c : X} {x y : IC} : Wc G (.cond c x y) Q fr m = wcdT (ev fr c) (Wc G x Q fr m) (Wc G y Q fr m) .mk := by
  apply propext
  constructor
  · rintro ⟨k, e, f, n, h1, h2⟩
    cases k with
    | zero => cases h1
    | succ k =>
      rw [exec] at h1
      unfold wcdT
      split
      · rename_i b hb
        rw [hb] at h1
        unfold gifT
        cases b with
        | true => exact ⟨fun _ => ⟨k, e, f, n, h1, h2⟩, fun h => (nomatch h)⟩
        | false => exact ⟨fun h => (nomatch h), fun _ => ⟨k, e, f, n, h1, h2⟩⟩
      · rename_i h3
        split at h1
        · rename_i b hb; exact (h3 b hb).elim
        · cases h1
  · intro h
    unfold wcdT at h
    split at h
    · rename_i b hb
      exact Wc.cond hb (fun h1 => h.1 h1) (fun h1 => h.2 h1)
    · exact h.elim
theorem y67 {y : IC} : Aft G y Q .nrm fr m = Wc G y Q fr m := rfl
theorem y68 {y : IC} {j : Nat} : Aft G y Q (.exit j) fr m = Q (.exit j) fr m := rfl
theorem y69 {y : IC} : Aft G y Q .ret fr m = Q .ret fr m := rfl
theorem y70 {j : Nat} : Blkd j Q .nrm fr m = Q .nrm fr m := rfl
theorem y71 {i j : Nat} : Blkd j Q (.exit i) fr m = if i = j then Q .nrm fr m else Q (.exit i) fr m := rfl
theorem y72 {j : Nat} : Blkd j Q .ret fr m = Q .ret fr m := rfl
theorem y73 {rs : List Rv} {Q : V → Mem → Prop} : Fin rs Q .nrm fr m = ∃ v, resE fr m rs = some v ∧ Q v m := rfl
theorem y74 {rs : List Rv} {Q : V → Mem → Prop} : Fin rs Q .ret fr m = ∃ v, resE fr m rs = some v ∧ Q v m := rfl

theorem stepV_call {c c' : CallE} {i : I} (h : i.op.isCall = false) : stepV c fr m i = stepV c' fr m i := by
  unfold stepV
  split
  · exact opE_call h
  · rfl
  · rfl
theorem again_call {c c' : CallE} {i : I} (h : i.op.isCall = false) : again c fr m i = again c' fr m i := by
  unfold again; rw [stepV_call (c' := c') h]
theorem y77 : Wd G [] K fr m = K fr m := by
  apply propext
  constructor
  · rintro ⟨k, f, n, h1, h2⟩; cases h1; exact h2
  · exact Wd.nil
theorem wd_chk {i : I} {c : List I} {l : List DI} (hc : c.all (fun i => !i.op.isCall) = true) : Wd G (⟨i, c⟩ :: l) K fr m =
    Wo G [i] (fun f n => (n.length = m.length ∨ i.op.cls = 2) ∧ c.all (again nc f n) = true ∧ Wd G l K f n) fr m := by
  apply propext
  constructor
  · rintro ⟨k, f, n, h1, h2⟩
    unfold dopsE at h1
    cases hs : stepE (run G k) fr m i with
    | none => rw [hs] at h1; cases h1
    | some p =>
      rw [hs] at h1
      dsimp only at h1
      split at h1
      · rename_i hq
        refine ⟨k, p.1, p.2, by simp only [opsE, hs], hq.1.symm, List.all_eq_true.2 fun x hx => ?_, k, f, n, h1, h2⟩
        rw [again_call (c' := run G k) (by simpa using List.all_eq_true.1 hc x hx)]
        exact List.all_eq_true.1 hq.2 x hx
      · cases h1
  · intro hw
    refine Wd.consChk ?_
    obtain ⟨k, f, n, h1, h2, h3⟩ := hw
    exact ⟨k, f, n, h1, h2.symm, h3⟩
theorem y78 {i : I} {l : List DI} : Wd G (⟨i, []⟩ :: l) K fr m = Wo G [i] (fun f n => (n.length = m.length ∨ i.op.cls = 2) ∧ Wd G l K f n) fr m := by
  rw [wd_chk rfl]; simp
theorem y79 {i : I} {d' : Option Nat} {g : Bool} {n : Nat} {x : X} {gd : Option (Nat × Bool)} {l : List DI} : Wd G (⟨i, [⟨d', .load g n x, gd⟩]⟩ :: l) K fr m =
    Wo G [i] (fun f n' => (n'.length = m.length ∨ i.op.cls = 2) ∧ [⟨d', .load g n x, gd⟩].all (again nc f n') = true ∧ Wd G l K f n') fr m := wd_chk rfl
end
end Go.AL
