/- A stable sort's walks: two ranges in order become one (the law, and the walk). -/
import Derived.Test.YtdnmppikakpdiaaSig
set_option linter.unusedVariables false
set_option linter.unusedSimpArgs false
set_option maxRecDepth 10000
set_option maxHeartbeats 2000000
namespace Go.Am.Si
open Go.Am
theorem srt_put2 {A R1 R2 : List Ev} {x : Ev} (hs : Sor (R1 ++ R2)) (hp : (R1 ++ R2).Perm A) (h1 : ∀ r ∈ R1, leE r x) (h2 : ∀ r ∈ R2, leE x r) {C : List Ev} (hC : C.Perm (x :: A)) : srtE C = R1 ++ x :: R2 := by
  refine (srtE_uniq ?_ ?_).symm
  · rw [sor_app] at hs
    rw [sor_app, sor_cons]
    refine ⟨hs.1, ⟨h2, hs.2.1⟩, fun a ha b hb => ?_⟩
    rcases List.mem_cons.1 hb with rfl | hb
    · exact h1 a ha
    · exact hs.2.2 a ha b hb
  · exact List.perm_middle.trans ((hp.cons x).trans hC.symm)
theorem mrg {A B A1 A2 B1 B2 : List Ev} (hA : A = A1 ++ A2) (hB : B = B1 ++ B2) (sA : Sor A) (sB : Sor B) (hX : ∀ x ∈ A1, ∀ y ∈ B2, leE x y) (hY : ∀ y ∈ B1, ∀ x ∈ A2, leE y x) : srtE (A ++ B) = srtE (A1 ++ B1) ++ srtE (A2 ++ B2) := by
  subst hA hB
  rw [sor_app] at sA sB
  refine (srtE_uniq ?_ ?_).symm
  · rw [sor_app]
    refine ⟨srtE_sor _, srtE_sor _, fun x hx y hy => ?_⟩
    rw [(srtE_perm _).mem_iff, List.mem_append] at hx hy
    rcases hx with hx | hx <;> rcases hy with hy | hy
    · exact sA.2.2 x hx y hy
    · exact hX x hx y hy
    · exact hY x hx y hy
    · exact sB.2.2 x hx y hy
  · refine ((srtE_perm _).append (srtE_perm _)).trans ?_
    simp only [List.append_assoc]
    refine List.Perm.append_left A1 ?_
    rw [← List.append_assoc, ← List.append_assoc A2]
    exact List.Perm.append_right B2 List.perm_append_comm
theorem evAt_mid {P X S : List Ev} {a h : Nat} (hP : P.length = a) (h1 : a ≤ h) (h2 : h < a + X.length) : evAt (P ++ (X ++ S)) h = evAt X (h - a) := by
  unfold evAt
  rw [List.getElem?_append_right (by omega), List.getElem?_append_left (by omega), hP]
theorem evAt_get {X : List Ev} {i : Nat} (h : i < X.length) : evAt X i = X[i] := by simp [evAt, h]
theorem mid_take {P X S : List Ev} {a c : Nat} (hP : P.length = a) {x : Ev} (hx : x ∈ X.take c) : ∃ i, a ≤ i ∧ i < a + c ∧ i < a + X.length ∧ evAt (P ++ (X ++ S)) i = x := by
  obtain ⟨i, hi, rfl⟩ := List.mem_take_iff_getElem.1 hx
  exact ⟨a + i, by omega, by omega, by omega, by rw [evAt_mid hP (by omega) (by omega), ← evAt_get]; congr 1; omega⟩
theorem mid_drop {P X S : List Ev} {a c : Nat} (hP : P.length = a) {x : Ev} (hx : x ∈ X.drop c) : ∃ i, a + c ≤ i ∧ i < a + X.length ∧ evAt (P ++ (X ++ S)) i = x := by
  obtain ⟨i, hi, rfl⟩ := List.mem_drop_iff_getElem.1 hx
  exact ⟨a + (c + i), by omega, by omega, by rw [evAt_mid hP (by omega) (by omega), ← evAt_get]; congr 1; omega⟩
theorem mid_sor {P X S : List Ev} {a : Nat} (hP : P.length = a) (hX : Sor X) : ∀ i j, a ≤ i → i ≤ j → j < a + X.length → leE (evAt (P ++ (X ++ S)) i) (evAt (P ++ (X ++ S)) j) := by
  intro i j h1 h2 h3
  rw [evAt_mid hP h1 (by omega), evAt_mid hP (by omega) h3, evAt_get (by omega), evAt_get (by omega)]
  exact sor_get hX (by omega) (by omega)
/-- The place that is found: what it means. -/
theorem spl_law {P A B S : List Ev} {a m b mid lo hi s e : Nat} {L : List Ev} (hL : P ++ (A ++ (B ++ S)) = L) (hP : P.length = a) (hm : a + A.length = m) (hb : m + B.length = b) (sA : Sor A) (sB : Sor B)
    (hmid : a ≤ mid) (hmid2 : mid ≤ b) (hlo : a ≤ lo) (hlo2 : lo = a ∨ lo + b = mid + m) (hlo3 : mid + m ≤ lo + b) (hhi : hi ≤ m) (hhi2 : hi ≤ mid) (hhi3 : hi = m ∨ hi = mid) (hlh : lo ≤ hi) :
    Mono (fun h => ¬ ltE (evAt L (mid + m - 1 - h)) (evAt L h)) lo hi ∧ (Spl (fun h => ¬ ltE (evAt L (mid + m - 1 - h)) (evAt L h)) lo hi s → s + e = mid + m → (∀ x ∈ A.take (s - a), ∀ y ∈ B.drop (e - m), leE x y) ∧ (∀ y ∈ B.take (e - m), ∀ x ∈ A.drop (s - a), leE y x)) := by
  have oA : ∀ i j, a ≤ i → i ≤ j → j < m → leE (evAt L i) (evAt L j) := by
    have := mid_sor (P := P) (S := B ++ S) hP sA
    rw [hm, hL] at this; exact this
  have hL2 : (P ++ A) ++ (B ++ S) = L := by rw [← hL]; simp
  have hPA : (P ++ A).length = m := by simp; omega
  have oB : ∀ i j, m ≤ i → i ≤ j → j < b → leE (evAt L i) (evAt L j) := by
    have := mid_sor (P := P ++ A) (S := S) hPA sB
    rw [hb, hL2] at this; exact this
  refine ⟨fun h h' h1 h2 h3 hp => ?_, fun hs he => ⟨fun x hx y hy => ?_, fun y hy x hx => ?_⟩⟩
  · have p1 := oA h h' (by omega) h2 (by omega)
    have p2 := oB (mid + m - 1 - h') (mid + m - 1 - h) (by omega) (by omega) (by omega)
    exact leE_trans p1 (leE_trans hp p2)
  · obtain ⟨i, i1, i2, i3, rfl⟩ := mid_take (P := P) (S := B ++ S) hP hx
    obtain ⟨j, j1, j2, rfl⟩ := mid_drop (P := P ++ A) (S := S) hPA hy
    rw [hL, hL2]
    have h1 := hs.le
    have h2 := hs.ge
    rcases Nat.lt_or_ge lo s with hc | hc
    · have p := hs.yes (s - 1) (by omega) (by omega)
      have p1 := oA i (s - 1) (by omega) (by omega) (by omega)
      have p2 := oB (mid + m - 1 - (s - 1)) j (by omega) (by omega) (by omega)
      exact leE_trans p1 (leE_trans p p2)
    · omega
  · obtain ⟨i, i1, i2, rfl⟩ := mid_drop (P := P) (S := B ++ S) hP hx
    obtain ⟨j, j1, j2, j3, rfl⟩ := mid_take (P := P ++ A) (S := S) hPA hy
    rw [hL, hL2]
    have h1 := hs.le
    have h2 := hs.ge
    rcases Nat.lt_or_ge s hi with hc | hc
    · have p := hs.no s (by omega) hc
      have p1 := oA s i (by omega) (by omega) (by omega)
      have p2 := oB j (mid + m - 1 - s) (by omega) (by omega) (by omega)
      exact leE_trans p2 (leE_trans (le_of_lt (Decidable.not_not.1 p)) p1)
    · omega
end Go.Am.Si
