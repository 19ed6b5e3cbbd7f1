/- Law 66: when a door is other than closed: the walks. -/
import Derived.Test.YtkjlejpaajcahaaStM
set_option linter.unusedVariables false
set_option linter.unusedSimpArgs false
set_option maxRecDepth 10000
set_option maxHeartbeats 2000000
namespace Go.Am
abbrev vL (l : List Leg) : AV := .c (.vs 4 (l.map Leg.cells))
abbrev vS (l : List Sp) : AV := .c (.vs 2 (l.map Sp.cells))
def spR (l : List Sp) : Rows := l.map fun s => [i64 s.1, i64 s.2]
theorem spR_len (l : List Sp) : (spR l).length = l.length := by simp [spR]
theorem nmSp (k : Nat) (l : List Sp) : nmRows k (spR l) = true := by unfold spR; induction l <;> simp_all
theorem lcSp (k : Nat) (l : List Sp) : lcRows k (spR l) = true := by unfold spR; induction l <;> simp_all
theorem spR_snoc (l : List Sp) (a b : Int) : spR l ++ [[AV.c (.int .i64 a), AV.c (.int .i64 b)]] = spR (l ++ [(a, b)]) := by unfold spR; rw [List.map_append]; rfl
theorem toS (m : List Sp) : List.map (toAV ∘ Sp.cells) m = spR m := by unfold spR; congr 1
theorem allS (l : List Sp) : allRows (spR l) = some (l.map Sp.cells) := by rw [← toS, allRows_comp]
theorem spR_last (l : List Sp) (a b : Int) : ∀ h, (spR (l ++ [(a, b)]))[l.length]'h = [i64 a, i64 b] := by intro h; simp [spR]
theorem spR_set (l : List Sp) (a b c : Int) : List.take l.length (spR (l ++ [(a, b)])) ++ [AV.c (.int .i64 a), AV.c (.int .i64 c)] :: List.drop (l.length + 1) (spR (l ++ [(a, b)])) = spR (l ++ [(a, c)]) := by
  unfold spR; simp [List.take_append, List.drop_append]
def DrsC (g : List AV → Option (List AV)) : Prop := ∀ (l : List Leg) (H : Int), WayI l → (-1 ≤ H ∧ H ≤ 1073741824) → g [vL l, i64 H] = some [vS (trk H [] l)]
theorem track_Doors_run (Γ : Env) (M : Nat) (hM : 100 < M) : DrsC (run Γ M track_Doors_f) := by
  intro l H hw hH
  have hfew := hw.few
  obtain ⟨R, hR⟩ : ∃ R, trk H [] l = R := ⟨_, rfl⟩
  rw [hR]
  obtain ⟨ax, s', ⟨rfl, rfl⟩, hin⟩ : ∃ ax s', (ax = .ex 0 ∧ s' = ⟨[(5, .sl 5 R.length 0 R.length)], [(5, ⟨2, spR R⟩)]⟩) ∧ ∀ s0, nrm [0, 1, 5, 10, 11] [5, 76] s0 = ⟨[(0, vL l), (1, i64 H), (5, .sl 5 0 0 0), (10, i64 l.length), (11, i64 (0 : Nat))], [(5, ⟨2, spR []⟩)]⟩ → lp (exec Γ M track_Doors_l1) M s0 = some (ax, s') := by
    refine lp_all (fun q : List Sp × Nat => ⟨[(0, vL l), (1, i64 H), (5, .sl 5 q.1.length 0 q.1.length), (10, i64 l.length), (11, i64 q.2)], [(5, ⟨2, spR q.1⟩)]⟩) (fun q => q.2 ≤ l.length ∧ q.1.length ≤ q.2 ∧ trk H q.1 (l.drop q.2) = R) (fun q => l.length - q.2) _ ([], 0) M (by simp) ⟨by simp, by simp, by simpa using hR⟩ (by dsimp only; omega) ?_
    rintro ⟨out, k⟩ ⟨h1, h2, h3⟩
    dsimp only at h1 h2 h3 ⊢
    by_cases hlt : k < l.length
    · obtain ⟨g, hg⟩ : ∃ g, l[k]'hlt = g := ⟨_, rfl⟩
      have hgm : g ∈ l := by rw [← hg]; exact List.getElem_mem hlt
      have b1 := (hw.ok g hgm).tick
      have hrow : (l.map Leg.cells)[k]? = some g.cells := by simp [hlt, hg]
      rw [List.drop_eq_getElem_cons hlt, hg, trk] at h3
      have hlo := legS_len out g (endT H (l.drop (k + 1)))
      obtain ⟨m, hm⟩ : ∃ m, out.length = m := ⟨_, rfl⟩
      by_cases c1 : k + 1 < l.length
      · obtain ⟨x, hx⟩ : ∃ g, l[k + 1]'c1 = g := ⟨_, rfl⟩
        have hxm : x ∈ l := by rw [← hx]; exact List.getElem_mem c1
        have b2 := (hw.ok x hxm).tick
        have hrow1 : (l.map Leg.cells)[k + 1]? = some x.cells := by simp [c1, hx]
        have he : endT H (l.drop (k + 1)) = min H x.tick := by rw [List.drop_eq_getElem_cons c1, hx]; rfl
        have c1' : (k : Int) + 1 < l.length := by omega
        obtain ⟨e, he2⟩ : ∃ e, endT H (l.drop (k + 1)) = e := ⟨_, rfl⟩
        rw [he2] at h3 hlo he
        have b3 : -1073741825 ≤ e ∧ e ≤ 1073741824 := by omega
        have hmin : (if x.tick < H then x.tick else H) = e := by rw [he]; split <;> omega
        by_cases c2 : g.door = false
        · have hs : legS out g e = out := by unfold legS; rw [if_pos (.inl c2)]
          rw [hs] at h3
          simp -implicitDefEqProofs (disch := first | omega | (simp <;> fail) | assumption) [hlt, hrow, Leg.cells, c2, hrow1, c1', hmin]
          exact ⟨out, k + 1, ⟨⟨rfl, by omega⟩, rfl⟩, ⟨by omega, by omega, h3⟩, by omega⟩
        have c2' : g.door = true := by simpa using c2
        by_cases c3 : e ≤ g.tick
        · have hs : legS out g e = out := by unfold legS; rw [if_pos (.inr c3)]
          rw [hs] at h3
          simp -implicitDefEqProofs (disch := first | omega | (simp <;> fail) | assumption) [hlt, hrow, Leg.cells, c2', c3, hrow1, c1', hmin]
          exact ⟨out, k + 1, ⟨⟨rfl, by omega⟩, rfl⟩, ⟨by omega, by omega, h3⟩, by omega⟩
        rcases List.eq_nil_or_concat out with rfl | ⟨o, ⟨x0, y0⟩, rfl⟩
        · have hs : legS [] g e = [(g.tick, e)] := by unfold legS; rw [if_neg (by simp [c2']; omega), if_neg (by simp [lastTo])]; rfl
          rw [hs] at h3
          simp -implicitDefEqProofs (disch := first | omega | (simp <;> fail) | assumption) [hlt, hrow, Leg.cells, c2', c3, spR, hrow1, c1', hmin]
          exact ⟨[(g.tick, e)], k + 1, ⟨⟨by simp, by omega⟩, by simp⟩, ⟨by omega, by simp, h3⟩, by omega⟩
        · rw [List.concat_eq_append] at *
          have hl : o.length + 1 ≤ k := by simpa using h2
          have u1 : ((o.length : Int) + 1 - 1) = o.length := by omega
          have u2 : (0 : Int) < (o.length : Int) + 1 := by omega
          have u3 := spR_last o x0 y0
          have u4 := fun c => spR_set o x0 y0 c
          have u5 := spR_len (o ++ [(x0, y0)])
          have u6 := fun z => nmSp z (o ++ [(x0, y0)])
          have u7 := fun z => lcSp z (o ++ [(x0, y0)])
          have u8 := fun a b => spR_snoc (o ++ [(x0, y0)]) a b
          have u9 : (o ++ [(x0, y0)]).length = o.length + 1 := by simp
          rw [u9] at u5
          have u10 : ((o.length + 1 : Nat) : Int) = (o.length : Int) + 1 := by omega
          by_cases c4 : y0 = g.tick
          · have hs : legS (o ++ [(x0, y0)]) g e = o ++ [(x0, e)] := by unfold legS; rw [if_neg (by simp [c2']; omega), lastTo_snoc, if_pos (by simp [c4]), setLast_snoc]
            rw [hs] at h3
            subst c4
            generalize spR (o ++ [(x0, g.tick)]) = G at *
            simp -implicitDefEqProofs (disch := first | omega | (simp <;> fail) | assumption) [hlt, hrow, Leg.cells, c2', c3, u1, u2, u3, u4, u5, u6, u7, u9, hrow1, c1', hmin]
            exact ⟨o ++ [(x0, e)], k + 1, ⟨⟨by simp, by omega⟩, rfl⟩, ⟨by omega, by simp; omega, h3⟩, by omega⟩
          · have hs : legS (o ++ [(x0, y0)]) g e = o ++ [(x0, y0)] ++ [(g.tick, e)] := by unfold legS; rw [if_neg (by simp [c2']; omega), lastTo_snoc, if_neg (by simp [c4])]
            rw [hs] at h3
            generalize spR (o ++ [(x0, y0)]) = G at *
            simp -implicitDefEqProofs (disch := first | omega | (simp <;> fail) | assumption) [-List.append_assoc, hlt, hrow, Leg.cells, c2', c3, c4, u1, u2, u3, u4, u5, u6, u7, u8, u9, hrow1, c1', hmin]
            exact ⟨o ++ [(x0, y0)] ++ [(g.tick, e)], k + 1, ⟨⟨by simp, by omega⟩, rfl⟩, ⟨by omega, by simp; omega, h3⟩, by omega⟩
      · have he : endT H (l.drop (k + 1)) = H := by rw [List.drop_eq_nil_of_le (by omega)]; rfl
        have c1' : ¬ (k : Int) + 1 < l.length := by omega
        obtain ⟨e, he2⟩ : ∃ e, endT H (l.drop (k + 1)) = e := ⟨_, rfl⟩
        rw [he2] at h3 hlo he
        have b3 : -1073741825 ≤ e ∧ e ≤ 1073741824 := by omega
        subst he
        by_cases c2 : g.door = false
        · have hs : legS out g e = out := by unfold legS; rw [if_pos (.inl c2)]
          rw [hs] at h3
          simp -implicitDefEqProofs (disch := first | omega | (simp <;> fail) | assumption) [hlt, hrow, Leg.cells, c2, c1']
          exact ⟨out, k + 1, ⟨⟨rfl, by omega⟩, rfl⟩, ⟨by omega, by omega, h3⟩, by omega⟩
        have c2' : g.door = true := by simpa using c2
        by_cases c3 : e ≤ g.tick
        · have hs : legS out g e = out := by unfold legS; rw [if_pos (.inr c3)]
          rw [hs] at h3
          simp -implicitDefEqProofs (disch := first | omega | (simp <;> fail) | assumption) [hlt, hrow, Leg.cells, c2', c3, c1']
          exact ⟨out, k + 1, ⟨⟨rfl, by omega⟩, rfl⟩, ⟨by omega, by omega, h3⟩, by omega⟩
        rcases List.eq_nil_or_concat out with rfl | ⟨o, ⟨x0, y0⟩, rfl⟩
        · have hs : legS [] g e = [(g.tick, e)] := by unfold legS; rw [if_neg (by simp [c2']; omega), if_neg (by simp [lastTo])]; rfl
          rw [hs] at h3
          simp -implicitDefEqProofs (disch := first | omega | (simp <;> fail) | assumption) [hlt, hrow, Leg.cells, c2', c3, spR, c1']
          exact ⟨[(g.tick, e)], k + 1, ⟨⟨by simp, by omega⟩, by simp⟩, ⟨by omega, by simp, h3⟩, by omega⟩
        · rw [List.concat_eq_append] at *
          have hl : o.length + 1 ≤ k := by simpa using h2
          have u1 : ((o.length : Int) + 1 - 1) = o.length := by omega
          have u2 : (0 : Int) < (o.length : Int) + 1 := by omega
          have u3 := spR_last o x0 y0
          have u4 := fun c => spR_set o x0 y0 c
          have u5 := spR_len (o ++ [(x0, y0)])
          have u6 := fun z => nmSp z (o ++ [(x0, y0)])
          have u7 := fun z => lcSp z (o ++ [(x0, y0)])
          have u8 := fun a b => spR_snoc (o ++ [(x0, y0)]) a b
          have u9 : (o ++ [(x0, y0)]).length = o.length + 1 := by simp
          rw [u9] at u5
          have u10 : ((o.length + 1 : Nat) : Int) = (o.length : Int) + 1 := by omega
          by_cases c4 : y0 = g.tick
          · have hs : legS (o ++ [(x0, y0)]) g e = o ++ [(x0, e)] := by unfold legS; rw [if_neg (by simp [c2']; omega), lastTo_snoc, if_pos (by simp [c4]), setLast_snoc]
            rw [hs] at h3
            subst c4
            generalize spR (o ++ [(x0, g.tick)]) = G at *
            simp -implicitDefEqProofs (disch := first | omega | (simp <;> fail) | assumption) [hlt, hrow, Leg.cells, c2', c3, u1, u2, u3, u4, u5, u6, u7, u9, c1']
            exact ⟨o ++ [(x0, e)], k + 1, ⟨⟨by simp, by omega⟩, rfl⟩, ⟨by omega, by simp; omega, h3⟩, by omega⟩
          · have hs : legS (o ++ [(x0, y0)]) g e = o ++ [(x0, y0)] ++ [(g.tick, e)] := by unfold legS; rw [if_neg (by simp [c2']; omega), lastTo_snoc, if_neg (by simp [c4])]
            rw [hs] at h3
            generalize spR (o ++ [(x0, y0)]) = G at *
            simp -implicitDefEqProofs (disch := first | omega | (simp <;> fail) | assumption) [-List.append_assoc, hlt, hrow, Leg.cells, c2', c3, c4, u1, u2, u3, u4, u5, u6, u7, u8, u9, c1']
            exact ⟨o ++ [(x0, y0)] ++ [(g.tick, e)], k + 1, ⟨⟨by simp, by omega⟩, rfl⟩, ⟨by omega, by simp; omega, h3⟩, by omega⟩
    · obtain rfl : k = l.length := by omega
      rw [List.drop_length] at h3
      simp only [trk] at h3
      subst h3
      simp -implicitDefEqProofs (disch := first | omega | (simp <;> fail) | assumption)
  have hin2 := hin ⟨[(0, vL l), (1, i64 H), (5, .sl 5 0 0 0), (10, i64 l.length), (11, i64 0)], [(5, ⟨2, []⟩)]⟩ (by simp [spR])
  simp -implicitDefEqProofs (disch := first | omega | (simp <;> fail) | assumption) [hin2, allS, spR_len]
  exact List.take_of_length_le (by simp)
end Go.Am
