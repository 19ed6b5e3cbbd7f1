/- A function that is handed its caller's memory in another order: the object of its first argument ahead. -/
import Derived.Test.YtdnmppikakpdiaaAs
set_option linter.unusedVariables false
set_option linter.unusedSimpArgs false
namespace Go.Am
open Go.RowKit
theorem get_frontD (ob : List (Nat × Obj)) (K : Nat) (o : Obj) (h : get ob K = some o) (k : Nat) : get ((K, o) :: del ob K) k = get ob k := by
  simp only [Go.Am.get, get_del]
  by_cases e : K = k
  · subst e; rw [if_pos rfl, h]
  · rw [if_neg e, if_neg (Ne.symm e)]
def frontPt (S : St → Option (List AV × List (Nat × Obj))) (s : St) : Option (List AV × List (Nat × Obj)) :=
  match get s.fr 0 with
  | some (.sl K _ _ _) => match get s.ob K with
    | some o => S ⟨s.fr, (K, o) :: del s.ob K⟩
    | none => none
  | _ => none
theorem SpecP.front {P : Program} {f : FuncId} {S : St → Option (List AV × List (Nat × Obj))} (h : SpecP P f S) : SpecP P f (frontPt S) := by
  intro γ B F ρ fr ob w us rs ob' hlen hal hm hf hS
  unfold frontPt at hS
  split at hS
  case h_2 => simp at hS
  rename_i K v st l h0
  split at hS
  case h_2 => simp at hS
  rename_i o h1
  have hg := get_frontD ob K o h1
  have h2 : ∀ {x : AV} {v : Value}, AR F ρ ob x v → AR F ρ ((K, o) :: del ob K) x v := fun ha => ha.sub fun k o' hk => by rw [hg] at hk; exact hk
  refine h γ B F ρ fr ((K, o) :: del ob K) w us rs ob' hlen hal ⟨hm.facts, hm.big, fun k o' a b => hm.bare k o' (by rw [← hg]; exact a) b, fun k o' p a b => ?_, fun k o' p a b => hm.apart k o' p (by rw [← hg]; exact a) b, fun k o' p k' o2 p' a b c d => hm.inj k o' p k' o2 p' (by rw [← hg]; exact a) b (by rw [← hg]; exact c) d⟩ (fun i v hi => h2 (hf i v hi)) hS
  obtain ⟨g1, g2⟩ := hm.own k o' p (by rw [← hg]; exact a) b
  exact ⟨g1, g2.imp fun r hr x hx v hv => h2 hv⟩
theorem frontPt_mono {S : St → Option (List AV × List (Nat × Obj))} (h : ∀ (s : St) (rs : List AV) (ob : List (Nat × Obj)) (R : List Nat), (∀ r ∈ R, GB ≤ r) → S s = some (rs, ob) → S ⟨dels R s.fr, s.ob⟩ = some (rs, ob)) (s : St) (rs : List AV) (ob : List (Nat × Obj)) (R : List Nat) (hR : ∀ r ∈ R, GB ≤ r) (hs : frontPt S s = some (rs, ob)) : frontPt S ⟨dels R s.fr, s.ob⟩ = some (rs, ob) := by
  have hgd : get (dels R s.fr) 0 = get s.fr 0 := by rw [get_dels, if_neg fun h => by have := hR _ h; unfold GB at this; omega]
  unfold frontPt at hs ⊢
  rw [hgd]
  cases h0 : get s.fr 0 with
  | none => rw [h0] at hs; simp at hs
  | some x =>
    rw [h0] at hs
    cases x with
    | sl K v st l =>
      dsimp only at hs ⊢
      cases h1 : get s.ob K with
      | none => rw [h1] at hs; simp at hs
      | some o => rw [h1] at hs; exact h _ rs ob R hR hs
    | _ => simp at hs
end Go.Am
