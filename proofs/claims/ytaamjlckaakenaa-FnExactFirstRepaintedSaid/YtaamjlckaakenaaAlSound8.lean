/-
  Every operation that is no call: what the interpreter says is what the model does.
-/
import Derived.Test.YtaamjlckaakenaaAlSound7
namespace Go.AL
set_option linter.unusedSimpArgs false
set_option linter.unusedVariables false
open Go.RowKit

variable {σ : Nat → Nat} {B : Nat} {w0 : World} {E : Emb} {m m' : Mem} {w : World} {P : Program} {ρ : Nat → Option Nat} {nt : Nat} {fr : Fr} {a : Act} {call : CallE} {v : V} {o : Oper}

theorem arr1 {α : Type} {xs : Array α} {x : α} (h : xs.toList = [x]) : xs = #[x] := by rw [← Array.toArray_toList (xs := xs), h]
theorem arr2 {α : Type} {xs : Array α} {x y : α} (h : xs.toList = [x, y]) : xs = #[x, y] := by rw [← Array.toArray_toList (xs := xs), h]

theorem builtin_ok (h : St σ ρ B w0 nt E m w fr a) {b : Builtin} {c : Call} {oo : O} (hcal : c.callee = .builtin b) (ho : o.op = .call c) (hc : cBuiltin ρ P b c.args.toList c.argTypes.toList = some oo)
    (he : opE call fr m oo = some (v, m')) : Done σ B w0 E m v m' ((execOp a.eval o).run P w) := by
  generalize hal : c.args.toList = al at hc
  generalize htl : c.argTypes.toList = tl at hc
  unfold cBuiltin at hc
  split at hc
  · rename_i x y t u
    split at hc
    case h_2 => cases hc
    rename_i e d ht hu
    split at hc
    · cases hc
    rename_i hnu
    split at hc
    case h_2 => cases hc
    rename_i s b z x' y' hs hb hz hx hy
    split at hc
    · cases hc
    rename_i hs0
    cases hc
    exact op_app h ht hu (fun k hk => hnu k hk) hs hb hz (fun h0 => hs0 (.inl h0)) (Decidable.not_not.1 fun h0 => hs0 (.inr h0)) hx hy hcal (arr2 hal) (arr2 htl) ho he
  · rename_i x t
    split at hc
    · rename_i ht
      obtain ⟨x', hx, rfl⟩ := Option.map_eq_some_iff.1 hc
      exact op_lens h hx hcal (arr1 hal) (arr1 htl) ht ho he
    · rename_i e ht
      obtain ⟨x', hx, rfl⟩ := Option.map_eq_some_iff.1 hc
      exact op_len h hx hcal (arr1 hal) (arr1 htl) ht ho he
    · rename_i n e ht
      cases hc
      simp only [opE, ev] at he
      cases he
      refine Done.same h.sim ?_ ?_
      · trivial
      rw [call_builtin hcal ho]
      simp [arr1 hal, arr1 htl, builtin, Builtin.len_, run_underlying ht, cA, cV, cU, goInt]
    · rename_i p ht
      split at hc
      case h_2 => cases hc
      rename_i n e hp
      cases hc
      simp only [opE, ev] at he
      cases he
      refine Done.same h.sim ?_ ?_
      · trivial
      rw [call_builtin hcal ho]
      simp [arr1 hal, arr1 htl, builtin, Builtin.len_, run_underlying ht, run_underlying hp, cA, cV, cU, goInt]
    · cases hc
  · rename_i x y ts
    split at hc
    case h_2 => cases hc
    rename_i x' y' hx hy
    cases hc
    exact op_mn h hx hy hcal (arr2 hal) ho he
  · rename_i x y ts
    split at hc
    case h_2 => cases hc
    rename_i x' y' hx hy
    cases hc
    exact op_mx h hx hy hcal (arr2 hal) ho he
  · rename_i x y t ts
    split at hc
    case h_2 => cases hc
    rename_i e ht
    split at hc
    case h_2 => cases hc
    rename_i s x' y' hs hx hy
    cases hc
    exact op_cpy h ht hs hx hy hcal (arr2 hal) htl ho he
  · rename_i x t
    split at hc
    case h_2 => cases hc
    rename_i e ht
    split at hc
    case h_2 => cases hc
    rename_i s z x' hs hz hx
    split at hc
    · cases hc
    rename_i hs0
    cases hc
    exact op_clr h ht hz (fun h0 => hs0 (.inl h0)) (Decidable.not_not.1 fun h0 => hs0 (.inr h0)) hx hcal (arr1 hal) (arr1 htl) ho he
  · cases hc

set_option maxHeartbeats 2000000 in
theorem op_ok (h : St σ ρ B w0 nt E m w fr a) {oo : O} (hc : cOp ρ P o.op = some oo) (hnc : ∀ f xs, oo ≠ .call f xs) (hncv : ∀ x xs, oo ≠ .callv x xs)
    (he : opE call fr m oo = some (v, m')) : Done σ B w0 E m v m' ((execOp a.eval o).run P w) := by
  generalize hop : o.op = op at hc
  unfold cOp at hc
  split at hc
  · obtain ⟨x', hx, rfl⟩ := Option.map_eq_some_iff.1 hc; exact op_mov h hx (.inl hop) he
  · obtain ⟨x', hx, rfl⟩ := Option.map_eq_some_iff.1 hc; exact op_mov h hx (.inr hop) he
  · split at hc
    case h_2 => cases hc
    rename_i h1 h2 h3
    cases hc; exact op_pick h h1 h2 h3 hop he
  · obtain ⟨z, hz, rfl⟩ := Option.map_eq_some_iff.1 hc; exact op_alloc h hz hop he
  · obtain ⟨x', hx, rfl⟩ := Option.map_eq_some_iff.1 hc; exact op_box h hx hop he
  · -- build
    split at hc
    · rename_i z fs hz ht
      split at hc
      case isFalse => cases hc
      rename_i hall
      obtain ⟨ps', hps, rfl⟩ := Option.map_eq_some_iff.1 hc
      exact op_build h hz (.inl ⟨fs, ht, hall, rfl⟩) hps hop he
    · rename_i z n e hz ht
      split at hc
      case h_2 => cases hc
      rename_i s hs
      obtain ⟨ps', hps, rfl⟩ := Option.map_eq_some_iff.1 hc
      exact op_build h hz (.inr ⟨n, e, s, ht, hs, rfl⟩) hps hop he
    · cases hc
  · -- buildSlice
    split at hc
    case h_2 => cases hc
    rename_i e ht
    split at hc
    case h_2 => cases hc
    rename_i s z hs hz
    split at hc
    · cases hc
    rename_i hs0
    obtain ⟨ps', hps, rfl⟩ := Option.map_eq_some_iff.1 hc
    refine op_lit h ht hs hz (fun h0 => hs0 (.inl h0)) (Decidable.not_not.1 fun h0 => hs0 (.inr (.inl h0))) ?_ hps hop he
    exact Nat.le_of_not_lt fun h0 => hs0 (.inr (.inr h0))
  · -- load
    split at hc
    · rename_i n x' hg hn hx
      cases hc; exact op_load h hg (fun _ => hn) (fun h => by cases h) hx hop he
    · rename_i hg hn hx
      cases hc; exact op_load h hg (fun h => by cases h) (fun _ => rfl) hx hop he
    · cases hc
  · -- store
    split at hc
    case h_2 => cases hc
    rename_i hn hx hy
    cases hc; exact op_store h hn hx hy hop he
  · obtain ⟨x', hx, rfl⟩ := Option.map_eq_some_iff.1 hc; exact op_nilc h hx hop he
  · -- binOp
    rename_i bop t x y t'
    split at hc
    case h_2 => cases hc
    rename_i d x' y' hd hx hy
    split at hc
    · split at hc
      case isFalse => cases hc
      rename_i hib
      cases hc; exact op_bin h hx hy hib hop he
    · split at hc
      case isFalse => cases hc
      rename_i hib
      cases hc; exact op_bin h hx hy hib hop he
    · split at hc
      · cases hc; exact op_beq (n := false) h hx hy hd hop he
      · cases hc; exact op_beq (n := true) h hx hy hd hop he
      · cases hc
    · split at hc
      case isFalse => cases hc
      rename_i hnil
      split at hc
      · cases hc; exact op_isn (ifc := true) (n := false) h (.inl ⟨_, rfl, hd⟩) hx hnil hop he
      · cases hc; exact op_isn (ifc := true) (n := true) h (.inl ⟨_, rfl, hd⟩) hx hnil hop he
      · cases hc
    · split at hc
      case isFalse => cases hc
      rename_i hnil
      split at hc
      · cases hc; exact op_isn (ifc := false) (n := false) h (.inr ⟨_, rfl, hd⟩) hx hnil hop he
      · cases hc; exact op_isn (ifc := false) (n := true) h (.inr ⟨_, rfl, hd⟩) hx hnil hop he
      · cases hc
    · cases hc
  · obtain ⟨x', hx, rfl⟩ := Option.map_eq_some_iff.1 hc; exact op_neg h hx hop he
  · obtain ⟨x', hx, rfl⟩ := Option.map_eq_some_iff.1 hc; exact op_not h hx hop he
  · -- convert
    split at hc
    · rename_i hs ht hx
      cases hc; exact op_cvt h hx hs ht hop he
    · rename_i e x' hs ht hx
      split at hc
      case h_2 => cases hc
      rename_i hee
      cases hc; exact op_s2b h hs ht hee hx hop he
    · rename_i e x' hs ht hx
      split at hc
      case h_2 => cases hc
      rename_i hee
      cases hc; exact op_b2s h hs ht hee hx hop he
    · rename_i hs ht hx
      cases hc; exact op_i2s h hs ht hx hop he
    · cases hc
  · -- makeFunc
    split at hc
    case isFalse => cases hc
    rename_i h0
    split at hc
    case h_2 => cases hc
    rename_i hf hx
    cases hc; exact op_fnv h hf h0 hx hop he
  · -- makeSlice
    split at hc
    case h_2 => cases hc
    rename_i e ht
    split at hc
    case h_2 => cases hc
    rename_i s z b l' c' hs hz hb hl hcc
    split at hc
    · cases hc
    rename_i hs0
    cases hc
    exact op_mk h ht hs hz hb (fun h0 => hs0 (.inl h0)) (Decidable.not_not.1 fun h0 => hs0 (.inr h0)) hl hcc hop he
  · -- slice
    rename_i t x lo hi mx
    split at hc
    · rename_i x' lo' hi' ht hx hlo hhi hmx
      cases hc
      obtain ⟨rfl, -⟩ | ⟨_, _, _, hq, _⟩ := cXo_cases hmx
      · exact op_sstr h ht hx hlo hhi hop he
      · cases hq
    · rename_i e x' lo' hi' mx' ht hx hlo hhi hmx
      split at hc
      case h_2 => cases hc
      rename_i s hs
      split at hc
      · cases hc
      rename_i hmh
      cases hc
      exact op_slc h ht hs hx hlo hhi hmx hmh hop he
    · rename_i n e x' lo' hi' ht hx hlo hhi hmx
      split at hc
      case h_2 => cases hc
      rename_i s hs
      cases hc
      obtain ⟨rfl, -⟩ | ⟨_, _, _, hq, _⟩ := cXo_cases hmx
      · exact op_sarr h ht hs hx hlo hhi hop he
      · cases hq
    · cases hc
  · -- fieldAddr
    split at hc
    case h_2 => cases hc
    rename_i fs x' ht hx
    split at hc
    case h_2 => cases hc
    rename_i fd hf
    split at hc
    case h_2 => cases hc
    rename_i n hn
    split at hc
    · cases hc
    rename_i hn0
    cases hc; exact op_fadr h ht hf hn hn0 hx hop he
  · -- field
    split at hc
    case h_2 => cases hc
    rename_i fs x' ht hx
    split at hc
    case h_2 => cases hc
    rename_i fd hf
    split at hc
    case h_2 => cases hc
    rename_i g n hg hn
    cases hc; exact op_fld h ht hf hg hn hx hop he
  · -- indexAddr
    split at hc
    · rename_i e x' i' ht hx hi
      obtain ⟨s, hs, rfl⟩ := Option.map_eq_some_iff.1 hc
      exact op_ia h ht hs hx hi hop he
    · rename_i n e x' i' ht hx hi
      obtain ⟨s, hs, rfl⟩ := Option.map_eq_some_iff.1 hc
      exact op_iap h ht hs hx hi hop he
    · cases hc
  · -- index
    split at hc
    · rename_i x' i' ht hx hi
      cases hc; exact op_ixs h ht hx hi hop he
    · rename_i n e x' i' ht hx hi
      split at hc
      case h_2 => cases hc
      rename_i g s hg hs
      cases hc; exact op_ixa h ht hg hs hx hi hop he
    · cases hc
  · -- range
    split at hc
    case h_2 => cases hc
    rename_i ht
    obtain ⟨x', hx, rfl⟩ := Option.map_eq_some_iff.1 hc
    exact op_rng h ht hx hop he
  · obtain ⟨x', hx, rfl⟩ := Option.map_eq_some_iff.1 hc; exact op_nxt h hx hop he
  · obtain ⟨x', hx, rfl⟩ := Option.map_eq_some_iff.1 hc; exact op_ext h hx hop he
  · -- call
    rename_i c
    split at hc
    · rename_i hcal
      split at hc
      case h_2 => cases hc
      cases hc
      exact absurd rfl (hnc _ _)
    · obtain ⟨xs, hxs, rfl⟩ := Option.map_eq_some_iff.1 hc
      exact absurd rfl (hncv _ _)
    · rename_i b hcal
      exact builtin_ok h hcal hop hc he
    · cases hc
  · cases hc

end Go.AL
