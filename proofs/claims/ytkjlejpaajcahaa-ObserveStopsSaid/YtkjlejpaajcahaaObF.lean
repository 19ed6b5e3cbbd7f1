/- Law 58: the busiest floor: loops over two maps. -/
import Derived.Test.YtkjlejpaajcahaaObE
import Derived.Test.YtkjlejpaajcahaaAwD
set_option linter.unusedVariables false
set_option linter.unusedSimpArgs false
set_option maxRecDepth 10000
set_option maxHeartbeats 2000000
namespace Go.Am
structure Fe where
  b : Int
  f : Int
  n : Int
def Fe.row (e : Fe) : List AV := [.c (.int .i64 e.b), .c (.int .i64 e.f), .c (.int .i64 e.n)]
def Fe.born (e : Fe) : List AV := [.c (.int .i64 e.b)]
def roF (es : List Fe) : Rows := es.map Fe.row
def fidx (x : Int) : List Fe → Nat → Option (Nat × Int)
  | [], _ => none
  | e :: l, i => if x = e.f then some (i, e.n) else fidx x l (i + 1)
abbrev kkI : KK := (false, [.int .i64])
theorem mfind_fidx (x : Int) : ∀ (es : List Fe) (k : Nat), mfind kkI (.c (.int .i64 x)) (roF es) k = some ((fidx x es k).map fun p => (p.1, .c (.int .i64 p.2)))
  | [], k => rfl
  | e :: l, k => by
    have hm : mkeq kkI (.c (.int .i64 x)) (.c (.int .i64 e.f)) = some (decide (x = e.f)) := by simp [mkeq, eqKs, eqK]
    have ih := mfind_fidx x l (k + 1)
    unfold roF at ih ⊢
    rw [List.map_cons, Fe.row, mfind, hm]
    by_cases h : x = e.f
    · simp only [decide_eq_true h, fidx, if_pos h, Option.map_some]
    · simp only [decide_eq_false h, fidx, if_neg h]; exact ih
theorem fidx_split {x : Int} : ∀ {es : List Fe} {k i : Nat} {n : Int}, fidx x es k = some (i, n) → ∃ A e B, es = A ++ e :: B ∧ k + A.length = i ∧ e.f = x ∧ e.n = n
  | e :: l, k, i, n, h => by
    simp only [fidx] at h
    split at h
    · rename_i hh
      simp only [Option.some.injEq, Prod.mk.injEq] at h
      exact ⟨[], e, l, rfl, h.1, hh.symm, h.2⟩
    · obtain ⟨A, f, B, h1, h2, h3⟩ := fidx_split h
      exact ⟨e :: A, f, B, by rw [h1]; rfl, by simp; omega, h3⟩
theorem fidx_no {x : Int} : ∀ {es : List Fe} {k : Nat}, fidx x es k = none → ∀ e ∈ es, e.f ≠ x
  | [], _, _ => by simp
  | e :: l, k, h => by
    simp only [fidx] at h
    split at h
    · simp at h
    · rename_i hh
      intro f hf
      rcases List.mem_cons.1 hf with rfl | hf
      · exact Ne.symm hh
      · exact fidx_no h f hf
def addF (p : Nat × List Fe) (d : En) : Nat × List Fe := match fidx d.y p.2 0 with
  | some (i, v) => (p.1, p.2.take i ++ ⟨(match p.2[i]? with | some e => e.b | none => 0), d.y, v + d.n⟩ :: p.2.drop (i + 1))
  | none => (p.1 + 1, p.2 ++ [⟨p.1, d.y, d.n⟩])
theorem addF_cases (p : Nat × List Fe) (d : En) : (∃ A e B, p.2 = A ++ e :: B ∧ e.f = d.y ∧ fidx d.y p.2 0 = some (A.length, e.n) ∧ addF p d = (p.1, A ++ ⟨e.b, d.y, e.n + d.n⟩ :: B)) ∨ ((∀ e ∈ p.2, e.f ≠ d.y) ∧ fidx d.y p.2 0 = none ∧ addF p d = (p.1 + 1, p.2 ++ [⟨p.1, d.y, d.n⟩])) := by
  cases hp : fidx d.y p.2 0 with
  | none => exact .inr ⟨fidx_no hp, rfl, by simp only [addF, hp]⟩
  | some q =>
    obtain ⟨i, n⟩ := q
    obtain ⟨A, e, B, h1, h2, h3, h4⟩ := fidx_split hp
    rw [Nat.zero_add] at h2
    refine .inl ⟨A, e, B, h1, h3, by rw [h2, h4], ?_⟩
    simp only [addF, hp, h4]
    rw [h1, ← h2]
    simp
def sumF (done : List En) (f : Int) : Int := (done.map fun d => if d.y = f then d.n else 0).sum
theorem sumF_snoc (done : List En) (d : En) (f : Int) : sumF (done ++ [d]) f = sumF done f + (if d.y = f then d.n else 0) := by simp [sumF]
theorem sumF_perm {a b : List En} (h : a.Perm b) (f : Int) : sumF a f = sumF b f := by
  unfold sumF
  induction h with
  | nil => rfl
  | cons x _ ih => simp only [List.map_cons, List.sum_cons, ih]
  | swap x y l => simp only [List.map_cons, List.sum_cons]; omega
  | trans _ _ h1 h2 => rw [h1, h2]
theorem sumF_cnt (L : List P2) (f : Int) : sumF (cntE L).2 f = ((L.map (·.2)).count f : Int) := by
  refine snoc_ind (p := fun L => sumF (cntE L).2 f = ((L.map (·.2)).count f : Int)) rfl (fun l k h => ?_) L
  rw [cntE_snoc, List.map_append, List.count_append, Int.natCast_add, ← h]
  have hk : (([k].map (·.2)).count f : Int) = if k.2 = f then 1 else 0 := by
    by_cases c : k.2 = f <;> simp [c]
  rw [hk]
  rcases addE_cases (cntE l) k with ⟨A, e, B, c1, c2, _, c3⟩ | ⟨_, _, c3⟩
  · rw [c3, c1]
    have he : e.y = k.2 := by rw [← c2]; rfl
    unfold sumF
    simp only [List.map_append, List.map_cons, List.sum_append, List.sum_cons, he]
    split <;> omega
  · rw [c3]
    unfold sumF
    simp
structure Fm (done : List En) (p : Nat × List Fe) : Prop where
  born : (p.2.map (·.b)).Nodup
  lt : ∀ e ∈ p.2, e.b < p.1
  key : (p.2.map (·.f)).Nodup
  val : ∀ e ∈ p.2, e.n = sumF done e.f
  all : ∀ d ∈ done, ∃ e ∈ p.2, e.f = d.y
  frm : ∀ e ∈ p.2, ∃ d ∈ done, d.y = e.f
theorem fm_snoc {done : List En} {p : Nat × List Fe} (h : Fm done p) (d : En) : Fm (done ++ [d]) (addF p d) := by
  obtain ⟨h1, h2, h3, h4, h5, h6⟩ := h
  rcases addF_cases p d with ⟨A, e, B, c1, c2, _, c3⟩ | ⟨c1, _, c3⟩
  · rw [c3]
    rw [c1] at h1 h2 h3 h4 h5 h6
    have hne : ∀ f, f ∈ A ∨ f ∈ B → f.f ≠ d.y := by
      intro f hf hfk
      rw [List.map_append, List.map_cons, List.nodup_append, List.nodup_cons] at h3
      rcases hf with hf | hf
      · exact h3.2.2 f.f (List.mem_map.2 ⟨f, hf, rfl⟩) e.f (by simp) (by rw [hfk, c2])
      · exact h3.2.1.1 (List.mem_map.2 ⟨f, hf, by rw [hfk, c2]⟩)
    have other : ∀ f, f ∈ A ∨ f ∈ B → f.n = sumF (done ++ [d]) f.f := by
      intro f hf
      rw [sumF_snoc, if_neg (Ne.symm (hne f hf)), Int.add_zero]
      exact h4 f (by rcases hf with hf | hf <;> simp [hf])
    refine ⟨by simpa using h1, fun f hf => ?_, ?_, fun f hf => ?_, fun j hj => ?_, fun f hf => ?_⟩
    · simp only [List.mem_append, List.mem_cons] at hf
      rcases hf with hf | rfl | hf
      · exact h2 f (by simp [hf])
      · exact h2 e (by simp)
      · exact h2 f (by simp [hf])
    · simp only [List.map_append, List.map_cons] at h3 ⊢
      rw [c2] at h3; exact h3
    · simp only [List.mem_append, List.mem_cons] at hf
      rcases hf with hf | rfl | hf
      · exact other f (.inl hf)
      · simp only
        rw [sumF_snoc, if_pos rfl, ← c2, ← h4 e (by simp)]
      · exact other f (.inr hf)
    · have he : ∃ f ∈ A ++ ⟨e.b, d.y, e.n + d.n⟩ :: B, f.f = d.y := ⟨⟨e.b, d.y, e.n + d.n⟩, by simp, rfl⟩
      rcases List.mem_append.1 hj with hj | hj
      · obtain ⟨f, hf, hfj⟩ := h5 j hj
        simp only [List.mem_append, List.mem_cons] at hf
        rcases hf with hf | rfl | hf
        · exact ⟨f, by simp [hf], hfj⟩
        · rw [← hfj, c2]; exact he
        · exact ⟨f, by simp [hf], hfj⟩
      · rw [List.mem_singleton.1 hj]; exact he
    · simp only [List.mem_append, List.mem_cons] at hf
      rcases hf with hf | rfl | hf
      · obtain ⟨x, hx, hy⟩ := h6 f (by simp [hf]); exact ⟨x, by simp [hx], hy⟩
      · exact ⟨d, by simp, rfl⟩
      · obtain ⟨x, hx, hy⟩ := h6 f (by simp [hf]); exact ⟨x, by simp [hx], hy⟩
  · rw [c3]
    have h0 : sumF done d.y = 0 := by
      unfold sumF
      have : ∀ x ∈ done.map (fun x => if x.y = d.y then x.n else 0), x = 0 := by
        intro x hx
        obtain ⟨c, hc, rfl⟩ := List.mem_map.1 hx
        rw [if_neg]
        intro hy
        obtain ⟨e, he, hef⟩ := h5 c hc
        exact c1 e he (by rw [hef, hy])
      generalize done.map (fun x => if x.y = d.y then x.n else 0) = X at this
      induction X with
      | nil => rfl
      | cons a X ih => rw [List.sum_cons, this a (by simp), ih fun x hx => this x (by simp [hx])]; rfl
    refine ⟨?_, fun f hf => ?_, ?_, fun f hf => ?_, fun j hj => ?_, fun f hf => ?_⟩
    · rw [List.map_append, List.nodup_append]
      refine ⟨h1, by simp, fun b hb c hc => ?_⟩
      obtain ⟨f, hf, rfl⟩ := List.mem_map.1 hb
      have := h2 f hf
      simp only [List.map_cons, List.map_nil, List.mem_singleton] at hc
      omega
    · rcases List.mem_append.1 hf with hf | hf
      · have := h2 f hf; simp only; omega
      · rw [List.mem_singleton.1 hf]; simp only; omega
    · rw [List.map_append, List.nodup_append]
      refine ⟨h3, by simp, fun b hb c hc => ?_⟩
      obtain ⟨f, hf, rfl⟩ := List.mem_map.1 hb
      simp only [List.map_cons, List.map_nil, List.mem_singleton] at hc
      rw [hc]; exact c1 f hf
    · rcases List.mem_append.1 hf with hf | hf
      · rw [sumF_snoc, if_neg (Ne.symm (c1 f hf)), Int.add_zero]; exact h4 f hf
      · rw [List.mem_singleton.1 hf, sumF_snoc]
        simp [h0]
    · rcases List.mem_append.1 hj with hj | hj
      · obtain ⟨f, hf, hfj⟩ := h5 j hj
        exact ⟨f, by simp [hf], hfj⟩
      · rw [List.mem_singleton.1 hj]; exact ⟨⟨p.1, d.y, d.n⟩, by simp, rfl⟩
    · rcases List.mem_append.1 hf with hf | hf
      · obtain ⟨x, hx, hy⟩ := h6 f hf; exact ⟨x, by simp [hx], hy⟩
      · rw [List.mem_singleton.1 hf]; exact ⟨d, by simp, rfl⟩
def fmE (done : List En) : Nat × List Fe := done.foldl addF (0, [])
theorem fmE_snoc (done : List En) (d : En) : fmE (done ++ [d]) = addF (fmE done) d := by unfold fmE; rw [List.foldl_append]; rfl
theorem fm_fmE (done : List En) : Fm done (fmE done) := snoc_ind (p := fun D => Fm D (fmE D)) ⟨.nil, by simp [fmE], .nil, by simp [fmE], by simp, by simp [fmE]⟩ (fun l a h => by rw [fmE_snoc]; exact fm_snoc h a) done
theorem nmRows_roF (k : Nat) (l : List Fe) : nmRows k (roF l) = true := by unfold roF; induction l <;> simp_all [Fe.row]
theorem lcRows_roF (k : Nat) (l : List Fe) : lcRows k (roF l) = true := by unfold roF; induction l <;> simp_all [Fe.row]
theorem nmRows_fb (k : Nat) (l : List Fe) : nmRows k (l.map Fe.born) = true := by induction l <;> simp_all [Fe.born]
theorem lcRows_fb (k : Nat) (l : List Fe) : lcRows k (l.map Fe.born) = true := by induction l <;> simp_all [Fe.born]
theorem came_fb (l : List Fe) (b : Int) : came (l.map Fe.born) b = true ↔ ∃ e ∈ l, e.b = b := by
  unfold came
  rw [List.any_map, List.any_eq_true]
  simp [Fe.born]
theorem find_fb {l : List Fe} (hn : (l.map (·.b)).Nodup) {e : Fe} (he : e ∈ l) : (roF l).find? (hasBorn e.b) = some e.row := by
  unfold roF
  induction l with
  | nil => simp at he
  | cons f l ih =>
    rw [List.map_cons, List.nodup_cons] at hn
    rw [List.map_cons, List.find?_cons]
    rcases List.mem_cons.1 he with rfl | he
    · simp [Fe.row, hasBorn]
    · have : ¬ f.b = e.b := fun h => hn.1 (h ▸ List.mem_map.2 ⟨e, he, rfl⟩)
      have h0 : hasBorn e.b f.row = false := by simp [Fe.row, hasBorn, this]
      rw [h0]; exact ih hn.2 he
theorem row_fb {l : List Fe} {b : Int} {k v : AV} (h : [.c (.int .i64 b), k, v] ∈ roF l) : ∃ e ∈ l, b = e.b ∧ k = .c (.int .i64 e.f) ∧ v = .c (.int .i64 e.n) := by
  obtain ⟨e, he, hr⟩ := List.mem_map.1 h
  simp only [Fe.row, List.cons.injEq, AV.c.injEq, D.int.injEq, true_and, and_true] at hr
  exact ⟨e, he, hr.1.symm, hr.2.1.symm, hr.2.2.symm⟩
/-- A floor's number is more by an entry's. -/
theorem addF_ways (p : Nat × List Fe) (d : En) : ∃ R2 z2, (R2 = roF (addF p d).2 ∧ z2 = (addF p d).1) ∧
    ((∃ (i : Nat) (v b : Int), mfind kkI (.c (.int .i64 d.y)) (roF p.2) 0 = some (some (i, .c (.int .i64 v))) ∧ (∃ e ∈ p.2, e.f = d.y ∧ e.n = v) ∧ z2 = p.1 ∧ stampAt (roF p.2) i = .c (.int .i64 b) ∧ setRow (roF p.2) i [.c (.int .i64 b), .c (.int .i64 d.y), .c (.int .i64 (v + d.n))] = R2) ∨
     (mfind kkI (.c (.int .i64 d.y)) (roF p.2) 0 = some none ∧ roF p.2 ++ [[.c (.int .i64 (p.1 : Int)), .c (.int .i64 d.y), .c (.int .i64 d.n)]] = R2 ∧ z2 = p.1 + 1)) := by
  refine ⟨_, _, ⟨rfl, rfl⟩, ?_⟩
  rcases addF_cases p d with ⟨A, e, B, c1, c2, c0, c3⟩ | ⟨c1, c0, c3⟩
  · refine .inl ⟨A.length, e.n, e.b, by rw [mfind_fidx, c0]; rfl, ⟨e, by rw [c1]; simp, c2, rfl⟩, by rw [c3], ?_, ?_⟩
    · rw [c1]; simp [stampAt, roF, Fe.row]
    · rw [c3, c1]
      have hA : (A.map Fe.row).length = A.length := by simp
      simp only [roF, List.map_append, List.map_cons]
      rw [setRow, List.take_left' hA, List.drop_append, hA, List.drop_of_length_le (by rw [hA]; omega)]
      simp [Fe.row]
  · exact .inr ⟨by rw [mfind_fidx, c0]; rfl, by rw [c3]; simp [roF, Fe.row], by rw [c3]⟩
end Go.Am
