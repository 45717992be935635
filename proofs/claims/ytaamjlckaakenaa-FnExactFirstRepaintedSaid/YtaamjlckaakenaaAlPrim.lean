/-
  Functions of the library that are taken by their contracts: strings.IndexByte's callee, strings.Index at one byte.
-/
import Derived.Test.YtaamjlckaakenaaAlW
import Derived.Test.YtaamjlckaakenaaAlTop
import Derived.Lib.Bytealg
namespace Go.AL
set_option linter.unusedSimpArgs false
set_option linter.unusedVariables false

def idxPrim : List V → Mem → Option (V × Mem)
  | [.u (.a (.str s)), .u (.a (.int .u8 c))], m => some (V.i (Lib.indexByte s c.toNat.toUInt8), m)
  | _, _ => none

def idx1Prim : List V → Mem → Option (V × Mem)
  | [.u (.a (.str s)), .u (.a (.str [c]))], m => some (V.i (Lib.indexByte s c), m)
  | _, _ => none

def hasFn (P : Program) (n : Nat) : Prop := ∃ f, P.funcs[n]? = some f ∧ (f.name == "runtime.NumGoroutine") = false ∧ f.body.isNone = false

theorem prim_idx {P : Program} {σ : Nat → Nat} {n g : Nat} (hn : σ g = n) (hf : hasFn P n)
    (hc : ∀ (s : ByteArray) (c : Int) (w : World), Calls P n #[.string s, .int .u8 c] w fun e w' => e = .returned (.int .i64 (Lib.indexByte s.data.toList c.toNat.toUInt8)) ∧ w' = w) :
    ∀ B w0 args m v m', idxPrim args m = some (v, m') → CallsSim P σ B w0 g args m v m' := by
  intro B w0 args m v m' h
  unfold idxPrim at h
  split at h
  · cases h
    subst hn
    refine ⟨hf, fun E w hS _ => ?_⟩
    refine (hc _ _ w).mono fun e w' ⟨he, hw⟩ => ?_
    subst he hw
    exact ⟨E, fun _ _ => rfl, Nat.le_refl _, hS, by simp [V.ok, U.ok, A.ok], by simp [cV, cU, cA]⟩
  · cases h

theorem prim_idx1 {P : Program} {σ : Nat → Nat} {n g : Nat} (hn : σ g = n) (hf : hasFn P n)
    (hc : ∀ (s : ByteArray) (c : UInt8) (w : World), Calls P n #[.string s, .string ⟨#[c]⟩] w fun e w' => e = .returned (.int .i64 (Lib.indexByte s.data.toList c)) ∧ w' = w) :
    ∀ B w0 args m v m', idx1Prim args m = some (v, m') → CallsSim P σ B w0 g args m v m' := by
  intro B w0 args m v m' h
  unfold idx1Prim at h
  split at h
  · cases h
    subst hn
    refine ⟨hf, fun E w hS _ => ?_⟩
    refine (hc _ _ w).mono fun e w' ⟨he, hw⟩ => ?_
    subst he hw
    exact ⟨E, fun _ _ => rfl, Nat.le_refl _, hS, by simp [V.ok, U.ok, A.ok], by simp [cV, cU, cA]⟩
  · cases h

theorem Rn.prim {G : Env} {g : Nat} {p : List V → Mem → Option (V × Mem)} (hG : G g = some (.prim p)) {args : List V} {m : Mem} {v : V} {m' : Mem} {Q : V → Mem → Prop} (h : p args m = some (v, m')) (hQ : Q v m') : Rn G g args m Q :=
  ⟨1, v, m', by simp only [run, hG]; exact h, hQ⟩

theorem idx_ok {G : Env} {g : Nat} (hG : G g = some (.prim idxPrim)) {m : Mem} {s : List UInt8} {c : Int} : Rn G g [V.s s, V.a (.int .u8 c)] m fun v m' => v = V.i (Lib.indexByte s c.toNat.toUInt8) ∧ m' = m :=
  Rn.prim hG rfl ⟨rfl, rfl⟩
theorem idx1_ok {G : Env} {g : Nat} (hG : G g = some (.prim idx1Prim)) {m : Mem} {s : List UInt8} {c : UInt8} : Rn G g [V.s s, V.s [c]] m fun v m' => v = V.i (Lib.indexByte s c) ∧ m' = m :=
  Rn.prim hG rfl ⟨rfl, rfl⟩
end Go.AL
