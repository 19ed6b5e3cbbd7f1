/- Ties stay in order where a range is put in order. -/
import Derived.Test.YtdnmppikakpdiaaSij
set_option linter.unusedVariables false
set_option linter.unusedSimpArgs false
set_option maxRecDepth 10000
set_option maxHeartbeats 2000000
namespace Go.Am.Si
open Go.Am
theorem sor_tie {Z : List Ev} (h : Sor Z) (hn : (Z.map (·.i)).Nodup) : Z.Pairwise Tie := by
  have h2 : Z.Pairwise fun x y => x.i ≠ y.i := by rw [List.Nodup, List.pairwise_map] at hn; exact hn
  refine (List.Pairwise.and h h2).imp fun {x y} ⟨a, b⟩ e => ?_
  unfold leE ltE at a
  omega
theorem rep_tie {L Z : List Ev} {a : Nat} (hL : L.Pairwise Tie) (hn : (L.map (·.i)).Nodup) (hp : Z.Perm ((L.drop a).take Z.length)) (hZ : Sor Z) : (rep L Z a).Pairwise Tie := by
  have hE : L.take a ++ ((L.drop a).take Z.length ++ (L.drop a).drop Z.length) = L := by rw [List.take_append_drop, List.take_append_drop]
  have hD : L.drop (a + Z.length) = (L.drop a).drop Z.length := by rw [List.drop_drop]
  rw [← hE, List.pairwise_append, List.pairwise_append] at hL
  obtain ⟨h1, ⟨h2, h3, h4⟩, h5⟩ := hL
  have hz : (Z.map (·.i)).Nodup := by
    have : (((L.drop a).take Z.length).map (·.i)).Nodup := hn.sublist (((List.take_sublist _ _).trans (List.drop_sublist _ _)).map _)
    exact (hp.map _).nodup_iff.2 this
  unfold rep
  rw [hD, List.pairwise_append, List.pairwise_append]
  refine ⟨h1, ⟨sor_tie hZ hz, h3, fun x hx y hy => h4 x (hp.mem_iff.1 hx) y hy⟩, fun x hx y hy => h5 x hx y ?_⟩
  rcases List.mem_append.1 hy with hy | hy
  · exact List.mem_append_left _ (hp.mem_iff.1 hy)
  · exact List.mem_append_right _ hy
theorem seg_tie {L : List Ev} (hL : L.Pairwise Tie) (a c : Nat) : ((L.drop a).take c).Pairwise Tie := hL.sublist ((List.take_sublist _ _).trans (List.drop_sublist _ _))
theorem two_tie {L : List Ev} (hL : L.Pairwise Tie) (a m b : Nat) (h : a ≤ m) : ∀ x ∈ (L.drop a).take (m - a), ∀ y ∈ (L.drop m).take (b - m), Tie x y := by
  intro x hx y hy
  have hE : (L.drop a).take (m - a) ++ L.drop m = L.drop a := by
    rw [show L.drop m = (L.drop a).drop (m - a) by rw [List.drop_drop]; congr 1; omega, List.take_append_drop]
  have h1 : (L.drop a).Pairwise Tie := hL.sublist (List.drop_sublist _ _)
  rw [← hE, List.pairwise_append] at h1
  exact h1.2.2 x hx y (List.mem_of_mem_take hy)
end Go.Am.Si
