/- A function that is handed data, and answers with what it made: its own objects lie beside the caller's. -/
import Derived.Test.YtdnmppikakpdiaaAs
set_option linter.unusedVariables false
set_option linter.unusedSimpArgs false
namespace Go.Am
open Go.RowKit
def AV.in1 (K : List Nat) : AV → Bool
  | .sl k _ _ _ => K.contains k
  | .loc k _ _ => K.contains k
  | .mp k => K.contains k
  | .itr k => K.contains k
  | _ => true
def AV.inn (K : List Nat) : AV → Bool
  | .tup vs => vs.all (in1 K)
  | .ags vs => vs.all (in1 K)
  | .clo _ vs => vs.all (in1 K)
  | x => x.in1 K
theorem AR1.cong {F : Facts} {ρ ρ' : Map} {ob ob' : List (Nat × Obj)} {x : AV} {v : Value} (hn : ∀ k, x.names1 k = true → ρ' k = ρ k ∧ ∀ o, get ob' k = some o → get ob k = some o) (h : AR1 F ρ ob x v) : AR1 F ρ' ob' x v := by
  cases x <;> simp only [AR1] at h ⊢
  · exact h
  · exact h
  · exact h
  · rename_i k ver start len
    obtain ⟨h1, h2⟩ := hn k (by simp [AV.names1])
    refine ⟨h.1, fun o hob => ?_⟩
    obtain ⟨g1, g2⟩ := h.2 o (h2 o hob)
    refine ⟨g1, fun a b => ?_⟩
    have := g2 a b
    unfold SlR at this ⊢
    rw [h1]; exact this
  · rename_i k row off
    obtain ⟨h1, h2⟩ := hn k (by simp [AV.names1])
    exact ⟨h.1, fun o hob => by rw [h1]; exact h.2 o (h2 o hob)⟩
  · exact h
  · exact h
  · rename_i k
    obtain ⟨h1, h2⟩ := hn k (by simp [AV.names1])
    exact ⟨h.1, h.2.1, fun o hob => by rw [h1]; exact h.2.2 o (h2 o hob)⟩
  · rename_i k
    obtain ⟨h1, h2⟩ := hn k (by simp [AV.names1])
    exact ⟨h.1, fun o hob => by rw [h1]; exact h.2 o (h2 o hob)⟩
theorem AV.all1_in {K : List Nat} {x : AV} (h : x.inn K = true) : x.all1 fun y => ∀ k, y.names1 k = true → k ∈ K := by
  have key : ∀ y : AV, y.in1 K = true → ∀ k, y.names1 k = true → k ∈ K := fun y hy k hk => by
    cases y <;> simp only [AV.names1, beq_iff_eq, reduceCtorEq, Bool.false_eq_true] at hk
    all_goals subst hk; simpa [AV.in1] using hy
  cases x <;> simp only [AV.inn, List.all_eq_true] at h <;> first | exact fun y hy => key y (h y hy) | exact key _ h
theorem AV.all1_no {K : List Nat} {x : AV} (h : ∀ k ∈ K, x.names k = false) : x.all1 fun y => ∀ k, y.names1 k = true → k ∉ K := by
  cases x
  case tup vs => exact fun y hy k hk hK => by have := h k hK; simp only [AV.names, List.any_eq_false] at this; exact this y hy hk
  case ags vs => exact fun y hy k hk hK => by have := h k hK; simp only [AV.names, List.any_eq_false] at this; exact this y hy hk
  case clo g vs => exact fun y hy k hk hK => by have := h k hK; simp only [AV.names, List.any_eq_false] at this; exact this y hy hk
  all_goals exact fun k hk hK => by have := h k hK; simp only [AV.names] at this; rw [this] at hk; simp at hk
def argsF (fr : List (Nat × AV)) : Nat → Nat → Option (List AV)
  | _, 0 => some []
  | i, c + 1 => match get fr i, argsF fr (i + 1) c with
    | some v, some vs => some (v :: vs)
    | _, _ => none
def numF : Nat → List AV → List (Nat × AV)
  | _, [] => []
  | i, v :: vs => (i, v) :: numF (i + 1) vs
theorem argsF_some {fr : List (Nat × AV)} : ∀ {i c : Nat} {vs : List AV}, argsF fr i c = some vs → vs.length = c ∧ ∀ j, j < c → get fr (i + j) = vs[j]?
  | i, 0, vs, h => by simp only [argsF, Option.some.injEq] at h; subst h; exact ⟨rfl, fun j hj => absurd hj (by omega)⟩
  | i, c + 1, vs, h => by
    simp only [argsF] at h
    split at h
    case h_2 => simp at h
    rename_i v vs' h1 h2
    simp only [Option.some.injEq] at h; subst h
    obtain ⟨g1, g2⟩ := argsF_some h2
    refine ⟨by simp [g1], fun j hj => ?_⟩
    cases j with
    | zero => simpa using h1
    | succ j => have := g2 j (by omega); rw [show i + (j + 1) = i + 1 + j by omega]; simpa using this
theorem get_numF : ∀ (vs : List AV) (i j : Nat), get (numF i vs) j = if i ≤ j then vs[j - i]? else none
  | [], i, j => by simp [numF, Go.Am.get]
  | v :: vs, i, j => by
    simp only [numF, Go.Am.get, get_numF vs (i + 1) j]
    by_cases h : i = j
    · subst h; simp
    · rw [if_neg h]
      by_cases h2 : i + 1 ≤ j
      · rw [if_pos h2, if_pos (by omega), show j - i = (j - (i + 1)) + 1 by omega]; simp
      · rw [if_neg h2, if_neg (by omega)]
def ownPt (n : Nat) (K : List Nat) (S : St → Option (List AV × List (Nat × Obj))) (s : St) : Option (List AV × List (Nat × Obj)) :=
  if n < GB ∧ (get s.fr n).isNone = true then
    match argsF s.fr 0 n with
    | some vs => match s.frzs vs with
      | some (ds, ks) => match S ⟨numF 0 ds, []⟩ with
        | some (rs, ob1) =>
          if ((ob1.filter fun p => K.contains p.1).all fun p => p.2.rows.all fun r => r.all fun v => v.inn K) = true ∧ (rs.all fun v => v.inn K) = true ∧ (K.all fun k => (get (kill s ks).ob k).isNone && nmFr k s.fr && nmOb k (kill s ks).ob) = true then
            some (rs, (ob1.filter fun p => K.contains p.1) ++ (kill s ks).ob) else none
        | none => none
      | none => none
    | none => none
  else none
theorem get_filt {K : List Nat} : ∀ (ob : List (Nat × Obj)) (k : Nat), get (ob.filter fun p => K.contains p.1) k = if k ∈ K then get ob k else none
  | [], k => by simp [Go.Am.get]
  | (j, o) :: ob, k => by
    have ih := get_filt (K := K) ob k
    by_cases hj : j ∈ K
    · rw [List.filter_cons_of_pos (by simpa using hj)]
      simp only [Go.Am.get, ih]
      by_cases h : j = k
      · subst h; simp [hj]
      · simp [h]
    · rw [List.filter_cons_of_neg (by simpa using hj)]
      simp only [Go.Am.get, ih]
      by_cases h : j = k
      · subst h; simp [hj]
      · simp [h]
theorem nmFr_mem {k : Nat} {fr : List (Nat × AV)} (h : nmFr k fr = true) {i : Nat} {v : AV} (hv : get fr i = some v) : v.names k = false := by
  rw [← nmFr_all, List.all_eq_true] at h
  simpa using h (i, v) (get_mem hv)
theorem nmOb_mem {k : Nat} {ob : List (Nat × Obj)} (h : nmOb k ob = true) {i : Nat} {o : Obj} (hv : get ob i = some o) : ∀ r ∈ o.rows, ∀ x ∈ r, AV.names k x = false := by
  rw [← nmOb_all, List.all_eq_true] at h
  have := h (i, o) (get_mem hv)
  simp only [List.all_eq_true] at this
  exact fun r hr x hx => by simpa using this r hr x hx
theorem ownPt_some {n : Nat} {K : List Nat} {S : St → Option (List AV × List (Nat × Obj))} {s : St} {rs : List AV} {ob' : List (Nat × Obj)} (h : ownPt n K S s = some (rs, ob')) :
    n < GB ∧ get s.fr n = none ∧ ∃ vs ds ks ob1, argsF s.fr 0 n = some vs ∧ s.frzs vs = some (ds, ks) ∧ S ⟨numF 0 ds, []⟩ = some (rs, ob1) ∧ ob' = (ob1.filter fun p => K.contains p.1) ++ (kill s ks).ob ∧
      (∀ k o, k ∈ K → get ob1 k = some o → ∀ r ∈ o.rows, ∀ x ∈ r, AV.inn K x = true) ∧ (∀ v ∈ rs, AV.inn K v = true) ∧ ∀ k ∈ K, get (kill s ks).ob k = none ∧ nmFr k s.fr = true ∧ nmOb k (kill s ks).ob = true := by
  unfold ownPt at h
  split at h
  case isFalse => simp at h
  rename_i h0
  split at h
  case h_2 => simp at h
  rename_i vs h1
  split at h
  case h_2 => simp at h
  rename_i ds ks h2
  split at h
  case h_2 => simp at h
  rename_i rs0 ob1 h3
  split at h
  case isFalse => simp at h
  rename_i h4
  simp only [Option.some.injEq, Prod.mk.injEq] at h
  obtain ⟨rfl, rfl⟩ := h
  obtain ⟨a1, a2, a3⟩ := h4
  refine ⟨h0.1, by simpa using h0.2, vs, ds, ks, ob1, h1, h2, h3, rfl, fun k o hk ho r hr x hx => ?_, by simpa using a2, fun k hk => ?_⟩
  · simp only [List.all_eq_true] at a1
    have hg : get (ob1.filter fun p => K.contains p.1) k = some o := by rw [get_filt, if_pos hk]; exact ho
    exact a1 _ (get_mem hg) r hr x hx
  · simp only [List.all_eq_true, Bool.and_eq_true, Option.isNone_iff_eq_none] at a3
    obtain ⟨⟨b1, b2⟩, b3⟩ := a3 k hk
    exact ⟨b1, b2, b3⟩
theorem SpecP.own {P : Program} {f : FuncId} {n : Nat} {K : List Nat} {S : St → Option (List AV × List (Nat × Obj))} (h : SpecP P f S) : SpecP P f (ownPt n K S) := by
  intro γ B F ρ fr ob w us rs ob' hlen hal hm hf hS
  obtain ⟨hn, hnone, vs, ds, ks, ob1, hv, hfz, hrun, rfl, hin, hrin, hK⟩ := ownPt_some hS
  obtain ⟨hvl, hvg⟩ := argsF_some hv
  have hul : us.length ≤ n := by
    rcases Nat.lt_or_ge n us.length with h1 | h1
    · obtain ⟨v, h2⟩ := hal n h1; rw [hnone] at h2; simp at h2
    · exact h1
  have hvs : All2 (AR F ρ ob) vs ((List.range n).map fun j => us.getD j undef) := by
    refine All2.of_get (by simp [hvl]) fun i v hi => ?_
    have hi2 : i < n := by have := (List.getElem?_eq_some_iff.1 hi).1; omega
    refine ⟨us.getD i undef, by simp [hi2], ?_⟩
    have := hf i v (by rw [← hi, ← hvg i hi2, Nat.zero_add])
    rwa [if_pos (by omega)] at this
  have hds := frzs_sound (s := ⟨fr, ob⟩) hm hfz hvs
  have hdl : ds.length = n := by have := hds.length; simpa using this
  obtain ⟨F1, hF1⟩ : ∃ F1, FrzF F ρ ob ks w = F1 := ⟨_, rfl⟩
  have hk1 := Mem.kill (s := ⟨fr, ob⟩) (ks := ks) hm
  have hle1 : F.le F1 := hF1 ▸ FrzF.le
  have hnew1 : ∀ a u, F1 a u → F a u ∨ B ≤ a.block := fun a u hu => FrzF.new hm (by rw [hF1]; exact hu)
  have hsub := kill_sub ks (⟨fr, ob⟩ : St)
  simp only [hF1] at hds hk1
  generalize (kill ⟨fr, ob⟩ ks).ob = ob0 at *
  have hm1 : Mem w.heap.size F1 ρ [] w := ⟨hk1.facts, Nat.le_refl _, fun k o h => by simp [Go.Am.get] at h, fun k o p h => by simp [Go.Am.get] at h, fun k o p h => by simp [Go.Am.get] at h, fun k o p k' o' p' h => by simp [Go.Am.get] at h⟩
  have hgn : ∀ i v, get (numF 0 ds) i = some v → i < n ∧ ds[i]? = some v := fun i v hi => by
    rw [get_numF, if_pos (Nat.zero_le _), Nat.sub_zero] at hi
    exact ⟨by have := (List.getElem?_eq_some_iff.1 hi).1; omega, hi⟩
  refine (h #[] w.heap.size F1 ρ (numF 0 ds) [] w us rs ob1 hlen (fun i hi => ?_) hm1 (fun i v hi => ?_) hrun).mono ?_
  · have : i < ds.length := by omega
    exact ⟨ds[i], by rw [get_numF, if_pos (Nat.zero_le _), Nat.sub_zero]; exact List.getElem?_eq_getElem this⟩
  · obtain ⟨h1, h2⟩ := hgn i v hi
    obtain ⟨u, h3, h4⟩ := hds.get? i v h2
    rw [if_pos (by omega)]
    simp [h1] at h3
    subst h3
    exact AR.of_RR h4
  rintro e w' ⟨qs, rfl, F', ρ', hm', -, hr', hx⟩
  have hgK : ∀ k, k ∈ K → get ((ob1.filter fun p => K.contains p.1) ++ ob0) k = get ob1 k := fun k hk => by
    rw [get_append, get_filt, if_pos hk]
    cases get ob1 k with
    | some o => rfl
    | none => exact (hK k hk).1
  have hgN : ∀ k, k ∉ K → get ((ob1.filter fun p => K.contains p.1) ++ ob0) k = get ob0 k := fun k hk => by rw [get_append, get_filt, if_neg hk]
  have cN : ∀ {x : AV} {v : Value}, AV.inn K x = true → AR F' ρ' ob1 x v → AR F' (fun k => if k ∈ K then ρ' k else ρ k) ((ob1.filter fun p => K.contains p.1) ++ ob0) x v := fun {x v} hi ha =>
    ha.lift _ (AV.all1_in hi) fun y u hq h => h.cong fun k hk => ⟨by simp [hq k hk], fun o ho => by rw [hgK k (hq k hk)] at ho; exact ho⟩
  have cO : ∀ {x : AV} {v : Value}, (∀ k ∈ K, AV.names k x = false) → AR F1 ρ ob0 x v → AR F' (fun k => if k ∈ K then ρ' k else ρ k) ((ob1.filter fun p => K.contains p.1) ++ ob0) x v := fun {x v} hi ha =>
    (ha.mono hx.le).lift _ (AV.all1_no hi) fun y u hq h => h.cong fun k hk => ⟨by simp [hq k hk], fun o ho => by rw [hgN k (hq k hk)] at ho; exact ho⟩
  refine ⟨qs, rfl, F', fun k => if k ∈ K then ρ' k else ρ k, ⟨hm'.facts, Nat.le_trans hm.big hm'.big, fun k o h1 h2 => ?_, fun k o p h1 h2 => ?_, fun k o p h1 h2 a u hu => ?_, fun k o p k' o' p' h1 h2 h3 h4 h5 => ?_⟩, fun i v hi hv => ?_, ?_, ⟨hle1.trans hx.le, hx.below.mono hm.big, fun a u hu => ?_⟩⟩
  · by_cases hk : k ∈ K
    · rw [hgK k hk] at h1; rw [if_pos hk] at h2; exact hm'.bare k o h1 h2
    · rw [hgN k hk] at h1; rw [if_neg hk] at h2; exact hk1.bare k o h1 h2
  · by_cases hk : k ∈ K
    · rw [hgK k hk] at h1; rw [if_pos hk] at h2
      obtain ⟨g1, g2⟩ := hm'.own k o p h1 h2
      exact ⟨Nat.le_trans hm.big g1, g2.imp fun r hr x hxx v hv => cN (hin k o hk h1 r hr x hxx) hv⟩
    · rw [hgN k hk] at h1; rw [if_neg hk] at h2
      obtain ⟨g1, g2⟩ := hk1.own k o p h1 h2
      rw [hx.below.block _ (hk1.lt h1 h2)]
      exact ⟨g1, g2.imp fun r hr x hxx v hv => cO (fun j hj => nmOb_mem (hK j hj).2.2 h1 r hr x hxx) hv⟩
  · by_cases hk : k ∈ K
    · rw [hgK k hk] at h1; rw [if_pos hk] at h2; exact hm'.apart k o p h1 h2 a u hu
    · rw [hgN k hk] at h1; rw [if_neg hk] at h2
      rcases hx.new a u hu with h3 | h3
      · exact hk1.apart k o p h1 h2 a u h3
      · have := hk1.lt h1 h2; omega
  · by_cases hk : k ∈ K
    · rw [hgK k hk] at h1; rw [if_pos hk] at h2
      by_cases hk' : k' ∈ K
      · rw [hgK k' hk'] at h3; rw [if_pos hk'] at h4; exact hm'.inj k o p k' o' p' h1 h2 h3 h4 h5
      · rw [hgN k' hk'] at h3; rw [if_neg hk'] at h4
        have a1 := (hm'.own k o p h1 h2).1
        have a2 := hk1.lt h3 h4
        omega
    · rw [hgN k hk] at h1; rw [if_neg hk] at h2
      by_cases hk' : k' ∈ K
      · rw [hgK k' hk'] at h3; rw [if_pos hk'] at h4
        have a1 := (hm'.own k' o' p' h3 h4).1
        have a2 := hk1.lt h1 h2
        omega
      · rw [hgN k' hk'] at h3; rw [if_neg hk'] at h4; exact hk1.inj k o p k' o' p' h1 h2 h3 h4 h5
  · have := hf i v hv
    rw [if_neg (by omega)] at this
    exact cO (fun j hj => nmFr_mem (hK j hj).2.1 hv) ((this.mono hle1).sub hsub)
  · refine All2.of_get hr'.length fun i v hi => ?_
    obtain ⟨u, h1, h2⟩ := hr'.get? i v hi
    exact ⟨u, h1, cN (hrin v (List.mem_of_getElem? hi)) h2⟩
  · rcases hx.new a u hu with h3 | h3
    · exact hnew1 a u h3
    · exact .inr (Nat.le_trans hm.big h3)
theorem ownPt_mono {n : Nat} {K : List Nat} {S : St → Option (List AV × List (Nat × Obj))} (s : St) (rs : List AV) (ob : List (Nat × Obj)) (R : List Nat) (hR : ∀ r ∈ R, GB ≤ r) (hs : ownPt n K S s = some (rs, ob)) : ownPt n K S ⟨dels R s.fr, s.ob⟩ = some (rs, ob) := by
  have hgd : ∀ i, i < GB → get (dels R s.fr) i = get s.fr i := fun i hi => by rw [get_dels, if_neg fun h => by have := hR _ h; omega]
  have ha : ∀ c i, i + c ≤ GB → argsF (dels R s.fr) i c = argsF s.fr i c := by
    intro c
    induction c with
    | zero => intro i _; rfl
    | succ c ih => intro i hi; simp only [argsF]; rw [hgd i (by omega), ih (i + 1) (by omega)]
  have hfz : ∀ vs, St.frzs ⟨dels R s.fr, s.ob⟩ vs = s.frzs vs := by
    intro vs
    induction vs with
    | nil => rfl
    | cons v vs ih =>
      simp only [St.frzs, ih]
      rfl
  have hkl : ∀ ks (f1 f2 : List (Nat × AV)) (o : List (Nat × Obj)), (kill ⟨f1, o⟩ ks).ob = (kill ⟨f2, o⟩ ks).ob := by
    intro ks
    induction ks with
    | nil => intro f1 f2 o; rfl
    | cons k ks ih => intro f1 f2 o; exact ih f1 f2 _
  have hnf : ∀ k, nmFr k s.fr = true → nmFr k (dels R s.fr) = true := fun k h => by
    rw [← nmFr_all, List.all_eq_true] at h ⊢
    exact fun p hp => h p (mem_dels hp).1
  unfold ownPt at hs ⊢
  split at hs
  case isFalse => simp at hs
  rename_i h0
  rw [if_pos (by rw [hgd n h0.1]; exact h0), ha n 0 (by omega)]
  split at hs
  case h_2 => simp at hs
  rename_i vs h1
  simp only [hfz]
  split at hs
  case h_2 => simp at hs
  rename_i ds ks h2
  simp only [hkl ks (dels R s.fr) s.fr s.ob]
  split at hs
  case h_2 => simp at hs
  rename_i rs0 ob1 h3
  split at hs
  case isFalse => simp at hs
  rename_i h4
  have h5 : (K.all fun k => (get (kill s ks).ob k).isNone && nmFr k (dels R s.fr) && nmOb k (kill s ks).ob) = true := by
    have := h4.2.2
    simp only [List.all_eq_true, Bool.and_eq_true] at this ⊢
    exact fun k hk => ⟨⟨(this k hk).1.1, hnf k (this k hk).1.2⟩, (this k hk).2⟩
  exact (if_pos ⟨h4.1, h4.2.1, h5⟩).trans hs
end Go.Am
