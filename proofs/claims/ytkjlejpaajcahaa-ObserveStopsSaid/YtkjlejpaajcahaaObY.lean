/- Law 58, plain: the most; the sum of a grid's numbers. -/
import Derived.Test.YtkjlejpaajcahaaObX
set_option linter.unusedVariables false
set_option linter.unusedSimpArgs false
set_option maxRecDepth 10000
set_option maxHeartbeats 2000000
namespace Go.Am
open Go.Sort
def mx2 (m a b : Int) : Int := if (if m < a then a else m) < b then b else (if m < a then a else m)
theorem mx2_le {m a b z : Int} : mx2 m a b ≤ z ↔ m ≤ z ∧ a ≤ z ∧ b ≤ z := by
  unfold mx2; repeat' split
  all_goals omega
def moO (fl : List Int) (ts : List Trip) : Int := ts.foldl (fun m t => mx2 m (fl.count t.frm) (fl.count t.to)) 0
theorem moO_snoc (fl : List Int) (ts : List Trip) (t : Trip) : moO fl (ts ++ [t]) = mx2 (moO fl ts) (fl.count t.frm) (fl.count t.to) := by unfold moO; rw [List.foldl_append]; rfl
theorem moO_take (fl : List Int) (l : List Trip) (k : Nat) (h : k < l.length) : moO fl (l.take (k + 1)) = mx2 (moO fl (l.take k)) (fl.count l[k].frm) (fl.count l[k].to) := by
  rw [List.take_succ_eq_append_getElem h, moO_snoc]
theorem moO_le (fl : List Int) (ts : List Trip) (z : Int) : moO fl ts ≤ z ↔ 0 ≤ z ∧ ∀ t ∈ ts, (fl.count t.frm : Int) ≤ z ∧ (fl.count t.to : Int) ≤ z := by
  refine snoc_ind (p := fun ts => moO fl ts ≤ z ↔ 0 ≤ z ∧ ∀ t ∈ ts, (fl.count t.frm : Int) ≤ z ∧ (fl.count t.to : Int) ≤ z) (by simp [moO]) (fun l t h => ?_) ts
  rw [moO_snoc, mx2_le, h]
  constructor
  · rintro ⟨⟨h1, h2⟩, h3⟩
    refine ⟨h1, fun x hx => ?_⟩
    rcases List.mem_append.1 hx with hx | hx
    · exact h2 x hx
    · rw [List.mem_singleton.1 hx]; exact h3
  · rintro ⟨h1, h2⟩
    exact ⟨⟨h1, fun x hx => h2 x (by simp [hx])⟩, h2 t (by simp)⟩
theorem moO_nn (fl : List Int) (ts : List Trip) : 0 ≤ moO fl ts := ((moO_le fl ts _).1 (Int.le_refl _)).1
theorem flO_mem {l : List Trip} {f : Int} (h : f ∈ flO l) : ∃ t ∈ l, f = t.frm ∨ f = t.to := by
  obtain ⟨k, hk, rfl⟩ := List.mem_map.1 h
  obtain ⟨t, ht, hkt⟩ := List.mem_flatMap.1 hk
  refine ⟨t, ht, ?_⟩
  unfold evO1 at hkt
  rcases List.mem_append.1 hkt with hkt | hkt
  · split at hkt
    · rw [List.mem_singleton.1 hkt]; exact .inl rfl
    · simp at hkt
  · split at hkt
    · rw [List.mem_singleton.1 hkt]; exact .inr rfl
    · simp at hkt
structure BusyOk (l : List Trip) (m b : Int) (s : Bool) : Prop where
  is : s = decide (0 < m)
  no : s = false → b = 0
  yes : s = true → ((flO l).count b : Int) = m
  least : s = true → ∀ f : Int, ((flO l).count f : Int) = m → b ≤ f
theorem busy_ok (l : List Trip) : BusyOk l (moO (flO l) l) (busyF (flO l)).1 (busyF (flO l)).2 := by
  have hI := busyF_inv (flO l)
  obtain ⟨⟨b, s⟩, hb⟩ : ∃ q, busyF (flO l) = q := ⟨_, rfl⟩
  rw [hb] at hI ⊢
  rcases hI with ⟨h1, h2⟩ | ⟨h1, h2, h3⟩
  · simp only [Prod.mk.injEq] at h2
    obtain ⟨rfl, rfl⟩ := h2
    have hm : moO (flO l) l ≤ 0 := (moO_le _ _ _).2 ⟨by omega, fun t _ => by rw [h1]; simp⟩
    have := moO_nn (flO l) l
    have h0 : moO (flO l) l = 0 := by omega
    rw [h0]
    exact ⟨by simp, fun _ => rfl, by simp, by simp⟩
  · simp only at h1 h2 h3
    subst h2
    have hle : ∀ f : Int, ((flO l).count f : Int) ≤ ((flO l).count b : Int) := by
      intro f
      by_cases hf : f ∈ flO l
      · exact (h3 f hf).1
      · rw [List.count_eq_zero.2 hf]; omega
    have hm : moO (flO l) l = ((flO l).count b : Int) := by
      have hge := (moO_le (flO l) l (moO (flO l) l)).1 (Int.le_refl _)
      have hub := (moO_le (flO l) l ((flO l).count b : Int)).2 ⟨by omega, fun t _ => ⟨hle _, hle _⟩⟩
      obtain ⟨t, ht, hc⟩ := flO_mem h1
      have := hge.2 t ht
      rcases hc with hc | hc
      · rw [← hc] at this; omega
      · rw [← hc] at this; omega
    have hpos : 0 < (flO l).count b := List.count_pos_iff.2 h1
    rw [hm]
    refine ⟨by simp [h1], by simp, fun _ => rfl, fun _ f hf => ?_⟩
    have hfm : f ∈ flO l := List.count_pos_iff.1 (by omega)
    exact (h3 f hfm).2 hf
/-! ### The grid -/
theorem bornB_of {l : List En} (h : (l.map (·.b)).Nodup) : bornB l = true := by
  induction l with
  | nil => rfl
  | cons e l ih =>
    rw [List.map_cons, List.nodup_cons] at h
    simp only [bornB, Bool.and_eq_true, List.all_eq_true, Bool.not_eq_true', decide_eq_false_iff_not]
    exact ⟨fun f hf hb => h.1 (List.mem_map.2 ⟨f, hf, hb.symm⟩), ih h.2⟩
theorem nd_inj {α β : Type} {f : α → β} : ∀ {l : List α}, (l.map f).Nodup → ∀ {a b : α}, a ∈ l → b ∈ l → f a = f b → a = b
  | [], _, a, b, ha, _, _ => by simp at ha
  | x :: l, h, a, b, ha, hb, he => by
    rw [List.map_cons, List.nodup_cons] at h
    rcases List.mem_cons.1 ha with h1 | h1
    · rcases List.mem_cons.1 hb with h2 | h2
      · rw [h1, h2]
      · exact absurd (List.mem_map.2 ⟨b, h2, by rw [← he, h1]⟩) h.1
    · rcases List.mem_cons.1 hb with h2 | h2
      · exact absurd (List.mem_map.2 ⟨a, h1, by rw [he, h2]⟩) h.1
      · exact nd_inj h.2 h1 h2 he
theorem ties_of {l : List En} (h : (l.map kE).Nodup) : noTies ltW (l.map En.w) = true := by
  unfold noTies
  rw [List.all_eq_true]
  intro a ha
  rw [List.all_eq_true]
  intro b hb
  obtain ⟨e, he, rfl⟩ := List.mem_map.1 ha
  obtain ⟨f, hf, rfl⟩ := List.mem_map.1 hb
  by_cases hk : e.x = f.x ∧ e.y = f.y
  · have : e = f := nd_inj h he hf (by simp only [kE, hk.1, hk.2])
    subst this
    simp
  · simp only [ltW, En.w, List.getD_cons_zero, List.getD_cons_succ]
    rcases Int.lt_trichotomy e.x f.x with c | c | c
    · simp [c]
    · rcases Int.lt_trichotomy e.y f.y with d | d | d
      · simp [c, d]
      · exact absurd ⟨c, d⟩ hk
      · simp [c, d]
    · simp [c]
theorem entsG_gG (L : List P2) : entsG (gG L) = (cntE L).2 := by
  unfold gG
  split
  · rename_i h; subst h; rfl
  · rfl
theorem gok_gG (L : List P2) (h : L.length ≤ 1000) : GOk (gG L) := by
  have hc := cn_cnt L
  refine ⟨?_, ?_, ?_⟩ <;> rw [entsG_gG]
  · exact bornB_of hc.born
  · have := len_cnt L; omega
  · exact ties_of hc.key
theorem sum_gG (L : List P2) : sumM (allM (gG L)) = (L.length : Int) := by
  have hp := resF_perm swo_ltW ((entsG (gG L)).map En.w)
  have key : ∀ a b : List (List Int), a.Perm b → sumM (a.map tri) = sumM (b.map tri) := by
    intro a b h
    unfold sumM
    induction h with
    | nil => rfl
    | cons x _ ih => simp only [List.map_cons, List.sum_cons, ih]
    | swap x y l => simp only [List.map_cons, List.sum_cons]; omega
    | trans _ _ h1 h2 => rw [h1, h2]
  unfold allM
  rw [key _ _ hp, entsG_gG, ← sum_cnt L]
  unfold sumM
  rw [List.map_map, List.map_map]
  rfl
theorem all_small (L : List P2) (h : L.length ≤ 1000) : ∀ m ∈ allM (gG L), 0 ≤ m.2.2 ∧ m.2.2 ≤ 1000 := by
  intro m hm
  obtain ⟨e, he, rfl⟩ := allM_mem hm
  rw [entsG_gG] at he
  have := (cn_cnt L).val e he
  have := cnt_small L h e he
  exact ⟨by simp only; omega, this⟩
theorem gAt_cons {gk : Nat} {G : GSt} {k : Nat} {o : Obj} {ob : List (Nat × Obj)} (h : GAt gk G ob) (h1 : ¬ k = gk) (h2 : ¬ k = 1461501637330902918203684832716283019655932598995) : GAt gk G ((k, o) :: ob) := by
  unfold GAt at h ⊢
  split at h
  · simp only [Go.Am.get, if_neg h1]; exact h
  · simp only [Go.Am.get, if_neg h1, if_neg h2]; exact h
def roS (S : List P2) : Rows := S.map (toAV ∘ c2O)
theorem roS_len (S : List P2) : (roS S).length = S.length := by simp [roS]
theorem roS_snoc (S : List P2) (k : P2) : roS (S ++ [k]) = roS S ++ [[i64 k.1, i64 k.2]] := by simp [roS, c2O, toAV]
end Go.Am
