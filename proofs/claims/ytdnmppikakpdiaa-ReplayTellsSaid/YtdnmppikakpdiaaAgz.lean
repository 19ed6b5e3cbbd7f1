/- Append of rows that hold references; literals of such rows. -/
import Derived.Test.YtdnmppikakpdiaaAg
set_option linter.unusedVariables false
set_option linter.unusedSimpArgs false
namespace Go.Am
open Go.RowKit
section
variable {P : Program} {B : Nat} {F : Facts} {ρ : Map} {s : St} {a : Go.Act} {w w' : World} {o : Oper}
theorem ar_one_live {x : AV} {u : Value} (h1 : x.one = true) (hl : (s.cellsOf x).isSome = true) (h : AR F ρ s.ob x u) : u.oneCell' = true := by
  have h := AR.one1 h1 h
  cases x <;> simp only [AV.one, Bool.false_eq_true] at h1 <;> simp only [St.cellsOf] at hl <;> simp only [AR1] at h
  case c d => exact DR.one h
  case nil => subst h; rfl
  case sl k v st n =>
    split at hl
    · rename_i o' ho
      split at hl
      · rename_i hc
        have := (h.2 o' ho).2 hc.1 hc.2
        unfold SlR at this
        split at this
        · rw [this.2]; rfl
        · obtain ⟨_, a', rfl, _⟩ := this; rfl
      · simp at hl
    · simp at hl
  case loc k r f =>
    simp only [Option.isSome_map, Option.isSome_iff_exists] at hl
    obtain ⟨o', ho⟩ := hl
    obtain ⟨p, _, rfl⟩ := h.2 o' ho; rfl
  case ot x => exact (Oth.one h).1
  case mp k =>
    simp only [Option.isSome_map, Option.isSome_iff_exists] at hl
    obtain ⟨o', ho⟩ := hl
    obtain ⟨p, _, rfl⟩ := h.2.2 o' ho; rfl
theorem does_ldA {x : Opd} {sz : Nat} {p : AV} {cs : List AV} (hm : Mem B F ρ s.ob w) (hf : Fr F ρ s.ob s.fr a) (hc : chkLd P o x sz true = true) (h1 : s.opd x = some p) (h : s.loadA p sz = some cs) :
    Does P o a w (Post B F w s.fr a s.ob (.ags cs)) := by
  unfold chkLd at hc
  split at hc
  · rename_i t x' hop
    simp only [Bool.and_eq_true, Bool.or_eq_true, beq_iff_eq] at hc
    obtain ⟨⟨⟨hx, hsz⟩, hag⟩, _⟩ := hc
    have hr := opd_sound hf hx h1
    unfold St.loadA at h
    split at h
    · rename_i key row off
      split at h
      · simp at h
      · rename_i ob hob
        split at h
        · simp at h
        · rename_i r hrow
          split at h
          · rename_i hle
            obtain ⟨hle, hlive⟩ := hle
            simp only [Option.some.injEq] at h; subst h
            rw [List.all_eq_true] at hlive
            obtain ⟨pl, hρ, hv⟩ := hr.2 ob hob
            have hlen0 : ((r.drop off).take sz).length = sz := by simp; omega
            have hcell : ∀ (j : Nat) (y : AV), ((r.drop off).take sz)[j]? = some y → ∃ u, w.cell? ⟨pl.g, pl.o + row * pl.sz + off + j, none⟩ = some u ∧ AR1 F ρ s.ob y u ∧ u.oneCell' = true := by
              intro j y hy
              have hl := hlive y (List.mem_of_getElem? hy)
              have hj : j < sz := by rw [← hlen0]; exact (List.getElem?_eq_some_iff.1 hy).1
              rw [List.getElem?_take, if_pos hj, List.getElem?_drop] at hy
              obtain ⟨u, hu, har, hone⟩ := hm.cell hr.1 hob hρ hrow hy
              exact ⟨u, by rw [Nat.add_assoc]; exact hu, AR.one1 hone har, ar_one_live hone hl har⟩
            obtain ⟨us, hus⟩ : ∃ us : List Value, (List.range sz).map (fun j => (w.cell? ⟨pl.g, pl.o + row * pl.sz + off + j, none⟩).getD undef) = us := ⟨_, rfl⟩
            have husl : us.length = sz := by rw [← hus]; simp
            have hall : All2 (AR1 F ρ s.ob) ((r.drop off).take sz) us := by
              refine All2.of_get (by rw [hlen0, husl]) fun j y hy => ?_
              have hj : j < sz := by rw [← hlen0]; exact (List.getElem?_eq_some_iff.1 hy).1
              obtain ⟨u, hu, har, _⟩ := hcell j y hy
              exact ⟨u, by rw [← hus]; simp [hj, hu], har⟩
            have hone : ∀ u ∈ us, u.oneCell' = true := by
              intro u hu
              obtain ⟨j, hj, rfl⟩ := List.getElem_of_mem hu
              obtain ⟨v, hv, _, h1⟩ := hcell j (((r.drop off).take sz)[j]'(by omega)) (List.getElem?_eq_getElem (by omega))
              have : us[j] = v := by
                have h2 : us[j]? = some v := by rw [← hus]; simp [show j < sz by omega, hv]
                rw [List.getElem?_eq_getElem hj] at h2; simpa using h2
              rw [this]; exact h1
            refine does_value (w' := w) (u := .agg us.toArray) ?_ ⟨F, ρ, hm, hf, ⟨us, rfl, hall, hone⟩, .refl B F w⟩
            have hlo := run_loadCells_list (P := P) w ⟨pl.g, pl.o + row * pl.sz + off, none⟩ us (by
              intro j y hj
              have hjs : j < sz := by rw [← husl]; exact (List.getElem?_eq_some_iff.1 hj).1
              rw [← hus] at hj
              simp [hjs] at hj; subst hj
              obtain ⟨u, hu, _⟩ := hcell j (((r.drop off).take sz)[j]'(by omega)) (List.getElem?_eq_getElem (by omega))
              rw [Addr.add_mk, hu]; rfl)
            rw [husl] at hlo
            simp [execOp, hop, hv, Instr.loadAt, sureAddr_ok, loadVar, run_isAgg hag, run_sized hsz, hlo]
          · simp at h
    · simp at h
  · simp at hc
theorem srcZ_sound {p y : AV} {v : Value} {sz ky : Nat} {ys : Rows} {tx : TypeId} (hpos : 0 < sz) (hm : Mem B F ρ s.ob w) (h : srcA s sz p y = some (ky, ys)) (hr : AR F ρ s.ob y v) (hk : (∃ e', P.underlying tx = some (.slice e')) ∨ P.underlying tx = some .string) :
    ∃ (news : List Value) (oy : Obj), Src P sz tx v ys.length news w ∧ (∀ r ∈ ys, r.length = sz) ∧ (∀ (i : Nat) (r : List AV) (j : Nat) (x : AV), ys[i]? = some r → r[j]? = some x → x.one = true ∧ ∃ u, news[i * sz + j]? = some u ∧ AR F ρ s.ob x u) ∧ get s.ob ky = some oy ∧ (∀ r ∈ ys, r ∈ oy.rows) ∧ p.names ky = false := by
  unfold srcA at h
  split at h
  case h_2 => simp at h
  rename_i key ver st n
  split at h
  case h_2 => simp at h
  rename_i o ho
  split at h
  case isFalse => simp at h
  rename_i hc
  obtain ⟨h1, h2, h3, h4, h5⟩ := hc
  simp only [Option.some.injEq, Prod.mk.injEq] at h
  obtain ⟨rfl, rfl⟩ := h
  have hsub : ∀ r ∈ (o.rows.drop st).take n, r ∈ o.rows := fun r hr => List.mem_of_mem_drop (List.mem_of_mem_take hr)
  have hlen : ((o.rows.drop st).take n).length = n := by simp; omega
  obtain ⟨hK, hr⟩ := hr
  have hsl := (hr o ho).2 h1 h2
  unfold SlR at hsl
  cases hρ : ρ key with
  | none =>
    rw [hρ] at hsl
    obtain ⟨rfl, rfl⟩ := hsl
    refine ⟨[], o, ?_, by simp, by simp, ho, hsub, h4⟩
    rw [hlen]
    exact ⟨hk, fun w' => by simp [Builtin.lenOf], by simp [Builtin.firstCells], by simp [Builtin.firstCells], by simp, by simp⟩
  | some pl =>
    rw [hρ] at hsl
    obtain ⟨hcap, b, rfl, hb⟩ := hsl
    obtain ⟨g1, g2, g3, g4, cs, et, hh, g5, g6⟩ := hm.cells hK ho hρ
    have hps : pl.sz = sz := by rw [g3, h3]
    by_cases hn : n = 0
    · subst hn
      refine ⟨[], o, ?_, by simp, by simp, ho, hsub, h4⟩
      rw [hlen]
      cases b with
      | none => exact ⟨hk, fun w' => by simp [Builtin.lenOf], by simp [Builtin.firstCells], by simp [Builtin.firstCells], by simp, by simp⟩
      | some b => exact ⟨hk, fun w' => by simp [Builtin.lenOf], by simp [Builtin.firstCells, loadCells, loadCellsFrom], by simp [Builtin.firstCells, loadCells, loadCellsFrom], by simp, by simp⟩
    · obtain rfl := hb (.inl (by omega))
      have hrow : ∀ (i : Nat) (r : List AV), ((o.rows.drop st).take n)[i]? = some r → o.rows[st + i]? = some r ∧ i < n := by
        intro i r hi
        rw [List.getElem?_take] at hi
        split at hi
        · rename_i hin; exact ⟨by simpa [List.getElem?_drop] using hi, hin⟩
        · simp at hi
      have hcsl : pl.o + (st + n) * sz ≤ cs.size := by
        have := Nat.mul_le_mul_right sz (show st + n ≤ pl.cap by omega)
        rw [g5, hps]; omega
      rw [Nat.add_mul] at hcsl
      have hget : ∀ j, j < n * sz → ((cs.toList.drop (pl.o + st * sz)).take (n * sz))[j]? = cs[pl.o + st * sz + j]? := by
        intro j hj
        rw [List.getElem?_take, if_pos hj, List.getElem?_drop, Array.getElem?_toList]
      have hcell : ∀ (j : Nat) (u : Value), ((cs.toList.drop (pl.o + st * sz)).take (n * sz))[j]? = some u → j < n * sz ∧ cs[pl.o + st * sz + j]? = some u := by
        intro j u hj
        have hjl : j < n * sz := by
          have := (List.getElem?_eq_some_iff.1 hj).1
          rw [List.length_take] at this; omega
        exact ⟨hjl, by rw [← hget j hjl]; exact hj⟩
      have hw : ∀ (j : Nat) (u : Value), ((cs.toList.drop (pl.o + st * sz)).take (n * sz))[j]? = some u → w.cell? ((⟨pl.g, pl.o + st * sz, none⟩ : Addr).add j) = some u := by
        intro j u hj
        rw [Addr.add_mk]
        have := (hcell j u hj).2
        simp [World.cell?, hh, this]
      have hnl : ((cs.toList.drop (pl.o + st * sz)).take (n * sz)).length = n * sz := by
        rw [List.length_take, List.length_drop, Array.length_toList]; omega
      refine ⟨(cs.toList.drop (pl.o + st * sz)).take (n * sz), o, ?_, fun r hr => by rw [← hps]; exact g4 r (hsub r hr), fun i r j x hi hj => ?_, ho, hsub, h4⟩
      · rw [hlen, hps]
        refine ⟨hk, fun _ => rfl, run_firstCells_some w sz _ _ _ _ _ hnl hw, run_firstCells_some w.drew sz _ _ _ _ _ hnl (by simpa using hw), hnl, fun u hu => ?_⟩
        obtain ⟨j, hj⟩ := List.getElem?_of_mem hu
        obtain ⟨hjl, hju⟩ := hcell j u hj
        have hq : j / sz < n := Nat.div_lt_of_lt_mul (by rw [Nat.mul_comm]; exact hjl)
        have hmo : j % sz < sz := Nat.mod_lt _ hpos
        have hi : o.rows[st + j / sz]? = some (o.rows[st + j / sz]'(by omega)) := List.getElem?_eq_getElem _
        have hrl := g4 _ (List.getElem_mem (show st + j / sz < o.rows.length by omega))
        have hx : (o.rows[st + j / sz]'(by omega))[j % sz]? = some ((o.rows[st + j / sz]'(by omega))[j % sz]'(by omega)) := List.getElem?_eq_getElem _
        obtain ⟨q1, u', q2, q3⟩ := g6 _ _ _ _ hi hx
        have he : pl.o + (st + j / sz) * pl.sz + j % sz = pl.o + st * sz + j := by
          rw [hps, Nat.add_mul, Nat.add_assoc, Nat.add_assoc, Nat.mul_comm (j / sz) sz, Nat.div_add_mod, Nat.add_assoc]
        rw [he, hju] at q2
        simp only [Option.some.injEq] at q2; subst q2
        simp only [List.all_eq_true] at h5
        exact ar_one_live q1 (h5 _ (List.mem_of_getElem? hi) _ (List.mem_of_getElem? hx)) q3
      · obtain ⟨hi', hin⟩ := hrow i r hi
        obtain ⟨q1, u, q2, q3⟩ := g6 _ _ _ _ hi' hj
        have hjl : j < sz := by rw [← hps, ← g4 r (List.mem_of_getElem? hi')]; exact (List.getElem?_eq_some_iff.1 hj).1
        have hlt : i * sz + j < n * sz := by
          have : (i + 1) * sz ≤ n * sz := Nat.mul_le_mul_right _ hin
          rw [Nat.add_mul, Nat.one_mul] at this; omega
        refine ⟨q1, u, ?_, q3⟩
        rw [hget _ hlt]
        have he : pl.o + (st + i) * pl.sz + j = pl.o + st * sz + (i * sz + j) := by rw [hps, Nat.add_mul]; omega
        rw [he] at q2; exact q2
/-- A row that grows into a new block. -/
theorem grow_postZ {key n sz m cap : Nat} {e : TypeId} {olds news : List Value} {z : Value} {rows : Rows} {ys : Rows} (hK : key < MK) (hty : KT ≤ key → e + 1 = key / KT) (hm : Mem B F ρ s.ob w) (hpos : 0 < sz)
    (hrl : ∀ r ∈ rows, r.length = sz) (hn : rows.length = n) (hol : olds.length = n * sz) (hnl : news.length = m * sz) (hml : ys.length = m) (hyl : ∀ r ∈ ys, r.length = sz) (hzs : z.cells.size = sz) (hcap : n + m ≤ cap)
    (hT : ∀ k o, k ≠ key → get s.ob k = some o → ∀ r ∈ o.rows, ∀ x ∈ r, ∀ v, AR F ρ s.ob x v → AR F (updM ρ key (some ⟨w.heap.size, sz, cap, 0⟩)) (s.obj key ⟨sz, rows ++ ys⟩).ob x v)
    (hfr : Fr F (updM ρ key (some ⟨w.heap.size, sz, cap, 0⟩)) (s.obj key ⟨sz, rows ++ ys⟩).ob s.fr a)
    (hold : ∀ (i : Nat) (r : List AV) (j : Nat) (x : AV), rows[i]? = some r → r[j]? = some x → x.one = true ∧ ∃ u, olds[i * sz + j]? = some u ∧ AR F (updM ρ key (some ⟨w.heap.size, sz, cap, 0⟩)) (s.obj key ⟨sz, rows ++ ys⟩).ob x u)
    (hnew : ∀ (i : Nat) (r : List AV) (j : Nat) (x : AV), ys[i]? = some r → r[j]? = some x → x.one = true ∧ ∃ u, news[i * sz + j]? = some u ∧ AR F (updM ρ key (some ⟨w.heap.size, sz, cap, 0⟩)) (s.obj key ⟨sz, rows ++ ys⟩).ob x u) :
    Post B F w s.fr a (s.obj key ⟨sz, rows ++ ys⟩).ob (.sl key (n + m) 0 (n + m)) (.slice (some ⟨w.heap.size, 0, none⟩) (n + m) cap) (w.drew.alloc (.cells ((olds ++ news).toArray ++ Builtin.zeroCells z.cells (cap - (n + m))) e)) := by
  have hlen : (rows ++ ys).length = n + m := by simp [hn, hml]
  refine ⟨F, updM ρ key (some ⟨w.heap.size, sz, cap, 0⟩), ?_, hfr, sl_ar hK hlen obj_same (updM_same _ _) hcap, .refl F, ?_, fun _ _ h => .inl h⟩
  · refine Mem.change0 (cs := (olds ++ news).toArray ++ Builtin.zeroCells z.cells (cap - (n + m))) (et := e) hK hty hm hm.big (.inr (Nat.le_refl _)) (by simp) (fun k hk _ => Below.heap_alloc w.drew _ k hk) (heap_alloc_new w.drew _) ?_ (by rw [hlen]; exact hcap) rfl ?_ hT ?_
    · simp only [Array.size_append, List.size_toArray, List.length_append, size_zeroCells, hzs, hol, hnl, ← Nat.add_mul]
      congr 1; omega
    · intro r hr
      rcases List.mem_append.1 hr with hr | hr
      · exact hrl r hr
      · exact hyl r hr
    · intro i r j x hi hj
      have hjl : j < sz := by
        have : r ∈ rows ++ ys := List.mem_of_getElem? hi
        have hrs : r.length = sz := by
          rcases List.mem_append.1 this with hr | hr
          · exact hrl r hr
          · exact hyl r hr
        rw [← hrs]; exact (List.getElem?_eq_some_iff.1 hj).1
      have hcell : ∀ (q : Nat) (u : Value), (olds ++ news)[q]? = some u → ((olds ++ news).toArray ++ Builtin.zeroCells z.cells (cap - (n + m)))[q]? = some u := by
        intro q u hq
        have hql := (List.getElem?_eq_some_iff.1 hq).1
        rw [Array.getElem?_append_left (by simpa using hql)]
        simpa using hq
      rcases Nat.lt_or_ge i n with hin | hin
      · rw [List.getElem?_append_left (by omega)] at hi
        obtain ⟨q1, u, q2, q3⟩ := hold i r j x hi hj
        refine ⟨q1, u, hcell _ _ ?_, q3⟩
        have := (List.getElem?_eq_some_iff.1 q2).1
        rw [List.getElem?_append_left this]; exact q2
      · rw [List.getElem?_append_right (by omega), hn] at hi
        obtain ⟨q1, u, q2, q3⟩ := hnew (i - n) r j x hi hj
        refine ⟨q1, u, hcell _ _ ?_, q3⟩
        have he : i * sz = n * sz + (i - n) * sz := by rw [← Nat.add_mul]; congr 1; omega
        rw [List.getElem?_append_right (by rw [hol, he]; omega), hol]
        rw [show i * sz + j - n * sz = (i - n) * sz + j by omega]; exact q2
  · exact (Below.refl B w).trans ⟨rfl, rfl, rfl, by simp, fun k hk => Below.heap_alloc w.drew _ k (Nat.lt_of_lt_of_le hk hm.big)⟩

/-- append onto a slice without room and without elements. -/
theorem append_bareZ {x y : Operand} {t tx e : TypeId} {i : TypeInfo} {z : Value} {key sz : Nat} {ys : Rows} {news : List Value} (hK : key < MK) (hty : KT ≤ key → e + 1 = key / KT) (hm : Mem B F ρ s.ob w)
    (hop : o.op = .call { callee := .builtin .append, args := #[x, y], argTypes := #[t, tx] }) (ht : P.underlying t = some (.slice e)) (hi : P.info? e = some i) (hz : i.zero = some z) (hsz : i.size = sz) (hzs : z.cells.size = sz) (hpos : 0 < sz) (hb : 0 < i.bytes)
    (hx : a.eval x = .slice none 0 0) (hs : Src P sz tx (a.eval y) ys.length news w) (hyl : ∀ r ∈ ys, r.length = sz) (hnew : ys ≠ [] → ∀ p', ∀ (i : Nat) (r : List AV) (j : Nat) (x : AV), ys[i]? = some r → r[j]? = some x → x.one = true ∧ ∃ u, news[i * sz + j]? = some u ∧ AR F (updM ρ key (some p')) (s.obj key ⟨sz, ys⟩).ob x u)
    (hroom : ys.length * i.bytes ≤ 140737488355328)
    (hT0 : ys = [] → Mem B F (updM ρ key none) (s.obj key ⟨sz, []⟩).ob w ∧ Fr F (updM ρ key none) (s.obj key ⟨sz, []⟩).ob s.fr a)
    (hT : ys ≠ [] → ∀ p', (∀ k o, k ≠ key → get s.ob k = some o → ∀ r ∈ o.rows, ∀ x ∈ r, ∀ v, AR F ρ s.ob x v → AR F (updM ρ key (some p')) (s.obj key ⟨sz, ys⟩).ob x v) ∧ Fr F (updM ρ key (some p')) (s.obj key ⟨sz, ys⟩).ob s.fr a) :
    Does P o a w (Post B F w s.fr a (s.obj key ⟨sz, ys⟩).ob (.sl key ys.length 0 ys.length)) := by
  by_cases hne : ys = []
  · subst hne
    have hn0 : news = [] := List.eq_nil_of_length_eq_zero (by simpa using hs.newsLen)
    subst hn0
    subst hsz
    have hrun := run_append_nothing (P := P) w t tx o.type e i ht hi none 0 0 (Nat.le_refl _) (a.eval y) hs
    refine does_value (append_run hop (by rw [hx]; exact hrun)) ⟨F, updM ρ key none, (hT0 rfl).1, (hT0 rfl).2, ?_, .refl B F w⟩
    refine ⟨hK, fun o ho => ?_⟩
    rw [obj_same] at ho; simp only [Option.some.injEq] at ho; subst ho
    exact ⟨by simp, fun _ _ => by unfold SlR; rw [updM_same]; exact ⟨rfl, rfl⟩⟩
  · subst hsz
    have hlp : 0 < ys.length := List.length_pos_iff.2 hne
    have h1 : ys.length ≤ ys.length * i.bytes := Nat.le_mul_of_pos_right _ hb
    have hrun := run_append_grow_src (P := P) w t tx o.type e i z ht hi hz none 0 0 [] (by simp [Builtin.firstCells, loadCells, loadCellsFrom]) (a.eval y) ys.length news hs (by omega) (by omega) (growslice_fits (by omega) (by rw [Nat.zero_add]; exact hroom))
    refine does_value (append_run hop (by rw [hx]; exact hrun)) ?_
    have := grow_postZ (a := a) (key := key) (n := 0) (m := ys.length) (cap := grownCap w (0 + ys.length) 0 e) (e := e) (olds := []) (news := news) (z := z) (rows := []) (ys := ys) hK hty hm hpos (by simp) rfl (by simp) hs.newsLen rfl hyl hzs (grownCap_ge w _ _ _)
      (by simpa using (hT hne ⟨w.heap.size, i.size, grownCap w (0 + ys.length) 0 e, 0⟩).1) (by simpa using (hT hne ⟨w.heap.size, i.size, grownCap w (0 + ys.length) 0 e, 0⟩).2) (by simp) (by simpa using hnew hne ⟨w.heap.size, i.size, grownCap w (0 + ys.length) 0 e, 0⟩)
    simpa using this
theorem does_appZ {key sz bytes : Nat} {x y : Opd} {p q v : AV} {s' : St} {ys : Rows} {ky : Nat} (hK0 : key < MK) (hT : tyKey P o key = true) (hm : Mem B F ρ s.ob w) (hf : Fr F ρ s.ob s.fr a) (hc : chkApp P o sz bytes x y = true) (h1 : s.opd x = some p) (h2 : s.opd y = some q) (h3 : srcA s sz p q = some (ky, ys)) (hky : ky ≠ key)
    (h : appendToZ s key sz bytes p ys = some (v, s')) : s'.fr = s.fr ∧ Does P o a w (Post B F w s.fr a s'.ob v) := by
  obtain ⟨x', y', t, tx, e, i, z, hop, hx, hy, hk, ht, hi, hz, hsz, hby, hzs, hpos, hpb⟩ := chkApp_spec hc
  have hr1 := opd_sound hf hx h1
  have hr2 := opd_sound hf hy h2
  have hty0 : KT ≤ key → e + 1 = key / KT := by simp only [tyKey, hop, ht] at hT; exact tyKey_or (o := o) hT rfl
  obtain ⟨news, oy, hs, hyl, hnew, hoy, hmem, hpn⟩ := srcZ_sound (tx := tx) hpos hm h3 hr2 hk
  unfold appendToZ at h
  split at h
  · rename_i z0
    split at h
    · rename_i hcond
      simp only [Bool.and_eq_true] at hcond
      obtain ⟨rfl, hroom, hfree⟩ := hcond
      simp only [Option.some.injEq, Prod.mk.injEq] at h
      obtain ⟨rfl, rfl⟩ := h
      have hb : a.eval x' = .slice none 0 0 := hr1
      refine ⟨rfl, append_bareZ hK0 hty0 hm hop ht hi hz hsz hzs hpos (by omega) hb hs hyl (fun _ p' i r j x hi hj => by
        obtain ⟨q1, u, q2, q3⟩ := hnew i r j x hi hj
        exact ⟨q1, u, q2, (free_ar (a := a) hfree).1 ky oy hky hoy r (hmem r (List.mem_of_getElem? hi)) x (List.mem_of_getElem? hj) u q3⟩) (by rw [hby]; exact room_spec hroom) (fun _ => ⟨hm.newBare hfree, (free_ar hfree).2 hf⟩) fun _ p' => ?_⟩
      exact ⟨(free_ar (a := a) hfree).1, (free_ar hfree).2 hf⟩
    · simp at h
  · rename_i k ver n
    split at h
    · rename_i obj hob
      split at h
      · rename_i hcond
        obtain ⟨hver, rfl, hosz⟩ := hcond
        split at h
        · rename_i hcond2
          simp only [Bool.and_eq_true] at hcond2
          obtain ⟨⟨hroom, hnl⟩, hteq⟩ := hcond2
          have hty : KT ≤ k → e + 1 = k / KT := by
            intro h
            simp only [tyEq, Bool.or_eq_true, decide_eq_true_eq, beq_iff_eq] at hteq
            rcases hteq with h1 | h1
            · omega
            · rw [h1]; refine hty0 ?_
              have h2 : 1 ≤ k / KT := (Nat.one_le_div_iff (by unfold KT; omega)).2 h
              rw [h1] at h2
              exact (Nat.one_le_div_iff (by unfold KT; omega)).1 h2
          simp only [Option.some.injEq, Prod.mk.injEq] at h
          obtain ⟨rfl, rfl⟩ := h
          refine ⟨rfl, ?_⟩
          obtain ⟨hK, hr1⟩ := hr1
          have hsl := (hr1 obj hob).2 hver (by omega)
          have hroom := room_spec hroom
          obtain ⟨hl1, hl2⟩ := noLoc_spec hnl
          unfold SlR at hsl
          -- what a longer object lets through
          have more : ∀ (p' : Option Place), ys ≠ [] → ∀ {x : AV} {v : Value}, x.isLoc k = false → AR F ρ s.ob x v → AR F (updM ρ k p') (s.obj k ⟨sz, obj.rows ++ ys⟩).ob x v := by
            intro p' hne x v hxl hv
            exact hv.more hK hxl (fun k hk => updM_other _ hk) (fun k hk => obj_other hk) hob obj_same (by have := List.length_pos_iff.2 hne; simp; omega)
          cases hρ : ρ k with
          | none =>
            rw [hρ] at hsl
            obtain ⟨rfl, hb⟩ := hsl
            have hrows := hm.bare k obj hob hρ
            have hobj : obj = ⟨sz, []⟩ := by cases obj; simp_all
            subst hobj
            have hupd : updM ρ k none = ρ := by funext j; unfold updM; split <;> simp_all
            have hget : ∀ j, get (s.obj k ⟨sz, []⟩).ob j = get s.ob j := by
              intro j; rw [get_obj]; split
              · rename_i hj; subst hj; exact hob.symm
              · rfl
            simp only [Nat.zero_add, List.nil_append] at *
            refine append_bareZ hK hty hm hop ht hi hz hsz hzs hpos (by omega) hb hs hyl (fun hne p' i r j x hi hj => by
              obtain ⟨q1, u, q2, q3⟩ := hnew i r j x hi hj
              exact ⟨q1, u, q2, by simpa using more (some p') hne (hl2 ky oy hoy r (hmem r (List.mem_of_getElem? hi)) x (List.mem_of_getElem? hj)) q3⟩) (by rw [hby]; exact hroom) (fun _ => ⟨?_, ?_⟩) fun hne p' => ⟨?_, ?_⟩
            · rw [hupd]; exact hm.congr hget
            · rw [hupd]; exact hf.sub fun k o h => by rw [← hget]; exact h
            · intro k' o' hk' ho' r hr x hx v hv
              have := more (some p') hne (hl2 k' o' ho' r hr x hx) hv
              simpa using this
            · intro i v hi
              have := more (some p') hne (hl1 i v hi) (hf i v hi)
              simpa using this
          | some pl =>
            rw [hρ] at hsl
            obtain ⟨hcap, b, hb, ha⟩ := hsl
            obtain rfl := ha (.inr rfl)
            rw [Nat.sub_zero, Nat.zero_mul, Nat.add_zero] at hb
            obtain ⟨g1, g2, g3, g4, cs, et, hh, g5, g6⟩ := hm.cells hK hob hρ
            have hplsz : pl.sz = sz := by rw [g3, hosz]
            by_cases hne : ys = []
            · subst hne
              have hn0 : news = [] := List.eq_nil_of_length_eq_zero (by simpa using hs.newsLen)
              subst hn0
              subst hsz
              have hrun := run_append_nothing (P := P) w t tx o.type e i ht hi (some ⟨pl.g, pl.o, none⟩) n pl.cap (by omega) (a.eval y') hs
              have hget : ∀ j, get (s.obj k ⟨i.size, obj.rows ++ []⟩).ob j = get s.ob j := by
                intro j; rw [get_obj]; split
                · rename_i hj; subst hj; rw [hob]; cases obj; simp_all
                · rfl
              refine does_value (append_run hop (by rw [hb]; exact hrun)) ⟨F, ρ, hm.congr hget, hf.sub fun k o h => by rw [← hget]; exact h, ?_, .refl B F w⟩
              simp only [List.length_nil, Nat.add_zero]
              exact sl_ar hK (o' := ⟨i.size, obj.rows ++ []⟩) (by simpa using hver) obj_same hρ (by omega)
            · have hlp : 0 < ys.length := List.length_pos_iff.2 hne
              have hbl : n + ys.length ≤ (n + ys.length) * bytes := Nat.le_mul_of_pos_right _ hpb
              have hT : ∀ p', ∀ k' o, k' ≠ k → get s.ob k' = some o → ∀ r ∈ o.rows, ∀ x ∈ r, ∀ v, AR F ρ s.ob x v → AR F (updM ρ k (some p')) (s.obj k ⟨sz, obj.rows ++ ys⟩).ob x v :=
                fun p' k' o' hk' ho' r hr x hx v hv => more (some p') hne (hl2 k' o' ho' r hr x hx) hv
              have hFr : ∀ p', Fr F (updM ρ k (some p')) (s.obj k ⟨sz, obj.rows ++ ys⟩).ob s.fr a := fun p' i v hi => more (some p') hne (hl1 i v hi) (hf i v hi)
              have hnewT : ∀ p', ∀ (i : Nat) (r : List AV) (j : Nat) (x : AV), ys[i]? = some r → r[j]? = some x → x.one = true ∧ ∃ u, news[i * sz + j]? = some u ∧ AR F (updM ρ k (some p')) (s.obj k ⟨sz, obj.rows ++ ys⟩).ob x u := by
                intro p' i r j x hi hj
                obtain ⟨q1, u, q2, q3⟩ := hnew i r j x hi hj
                exact ⟨q1, u, q2, more (some p') hne (hl2 ky oy hoy r (hmem r (List.mem_of_getElem? hi)) x (List.mem_of_getElem? hj)) q3⟩
              have hnsz : pl.o + n * sz ≤ cs.size := by have := Nat.mul_le_mul_right sz (show n ≤ pl.cap by omega); rw [g5, hplsz]; omega
              have hown : ∀ p', ∀ (i : Nat) (r : List AV) (j : Nat) (x : AV), obj.rows[i]? = some r → r[j]? = some x → x.one = true ∧ ∃ u, cs[pl.o + i * sz + j]? = some u ∧ i * sz + j < n * sz ∧ AR F (updM ρ k (some p')) (s.obj k ⟨sz, obj.rows ++ ys⟩).ob x u := by
                intro p' i r j x hi hj
                obtain ⟨q1, u, q2, q3⟩ := g6 i r j x hi hj
                rw [hplsz] at q2
                have hil := (List.getElem?_eq_some_iff.1 hi).1
                have hjl : j < sz := by rw [← hplsz, ← g4 r (List.mem_of_getElem? hi)]; exact (List.getElem?_eq_some_iff.1 hj).1
                refine ⟨q1, u, q2, ?_, more (some p') hne (hl2 k obj hob r (List.mem_of_getElem? hi) x (List.mem_of_getElem? hj)) q3⟩
                have : (i + 1) * sz ≤ n * sz := Nat.mul_le_mul_right _ (by omega)
                rw [Nat.add_mul, Nat.one_mul] at this; omega
              by_cases hfit : n + ys.length ≤ pl.cap
              · have hty : KT ≤ k → et + 1 = k / KT := fun h => hm.typed hK hob hρ h _ _ _ hh
                have hcs : pl.o + n * sz + news.length ≤ cs.size := by have := Nat.mul_le_mul_right sz hfit; rw [Nat.add_mul] at this; rw [hs.newsLen, g5, hplsz]; omega
                have hst := run_storeCells_at P pl.g (pl.o + n * sz) et news 0 cs w hh (by simpa using hcs) hs.one
                simp only [Nat.add_zero] at hst
                have hrun : (Builtin.append_ #[t, tx] o.type #[.slice (some ⟨pl.g, pl.o, none⟩) n pl.cap, a.eval y']).run P w = .ok (.slice (some ⟨pl.g, pl.o, none⟩) (n + ys.length) pl.cap) (w.setRow pl.g (cs.toList.take (pl.o + n * sz) ++ news ++ cs.toList.drop (pl.o + n * sz + news.length)).toArray) := by
                  subst hsz
                  rcases hs.kind with ⟨e', hk⟩ | hk <;> simp [Builtin.append_, run_underlying ht, run_underlying hk, sizeOf, typeInfo, hi, hs.len, hfit, hs.cells, Addr.add_mk, hst]
                refine does_value (append_run hop (by rw [hb]; exact hrun)) ⟨F, updM ρ k (some pl), ?_, hFr pl, ?_, .refl F, row_below g1, fun _ _ h => .inl h⟩
                · have hspl : ∀ q, (cs.toList.take (pl.o + n * sz) ++ news ++ cs.toList.drop (pl.o + n * sz + news.length))[q]? = if pl.o + n * sz ≤ q ∧ q < pl.o + n * sz + news.length then news[q - (pl.o + n * sz)]? else cs[q]? := by
                    intro q
                    have := splice_get (cs := cs.toList) (xs := news) (off := pl.o + n * sz) (j := q) (by simpa using hcs)
                    unfold splice at this
                    rw [this, ← Array.getElem?_toList]
                  refine Mem.change (et := et) hK hty (hm.typed0 hK hob hρ) hm g1 (.inl ⟨obj, pl, hob, hρ, rfl⟩) (by simp [World.setRow]) (fun k hk hne => setRow_other w _ k _ hne) (setRow_heap w _ cs _ et _ hh) ?_ (by simp; omega) hplsz ?_ (hT pl) ?_
                  · simp only [List.size_toArray, List.length_append, List.length_take, List.length_drop, Array.length_toList]
                    rw [← g5]; omega
                  · intro r hr
                    rcases List.mem_append.1 hr with hr | hr
                    · exact g4 r hr
                    · rw [hplsz]; exact hyl r hr
                  · intro i r j x hi hj
                    simp only [List.getElem?_toArray, hplsz]
                    rw [hspl]
                    rcases Nat.lt_or_ge i obj.rows.length with hin | hin
                    · rw [List.getElem?_append_left hin] at hi
                      obtain ⟨q1, u, q2, q3, q4⟩ := hown pl i r j x hi hj
                      exact ⟨q1, u, by rw [if_neg (by omega)]; exact q2, q4⟩
                    · rw [List.getElem?_append_right hin, hver] at hi
                      obtain ⟨q1, u, q2, q3⟩ := hnewT pl (i - n) r j x hi hj
                      have he : i * sz = n * sz + (i - n) * sz := by rw [← Nat.add_mul]; congr 1; omega
                      have hql := (List.getElem?_eq_some_iff.1 q2).1
                      refine ⟨q1, u, ?_, q3⟩
                      rw [if_pos (by omega), show pl.o + i * sz + j - (pl.o + n * sz) = (i - n) * sz + j by omega]; exact q2
                · exact sl_ar hK (o' := ⟨sz, obj.rows ++ ys⟩) (by simp; omega) obj_same (updM_same _ _) hfit
              · have hold : (Builtin.firstCells i.size n (.slice (some ⟨pl.g, pl.o, none⟩) n pl.cap)).run P w.drew = .ok ((cs.toList.drop pl.o).take (n * sz)).toArray w.drew := by
                  rw [hsz]
                  refine run_firstCells_some w.drew sz n ⟨pl.g, pl.o, none⟩ n pl.cap _ (by simp; omega) fun j v hj => ?_
                  rw [List.getElem?_take] at hj
                  split at hj
                  · rw [Addr.add_mk]
                    show w.cell? _ = _
                    simp only [World.cell?, hh]
                    simpa [List.getElem?_drop] using hj
                  · simp at hj
                have hrun := run_append_grow_src (P := P) w t tx o.type e i z ht hi hz (some ⟨pl.g, pl.o, none⟩) n pl.cap _ hold (a.eval y') ys.length news (by rw [hsz]; exact hs) (by omega) (by omega) (growslice_fits (by omega) (by rw [hby]; exact hroom))
                refine does_value (append_run hop (by rw [hb]; exact hrun)) ?_
                refine grow_postZ (e := e) (z := z) hK hty hm hpos (fun r hr => by rw [← hplsz]; exact g4 r hr) hver (by simp; omega) hs.newsLen rfl hyl hzs (grownCap_ge w _ _ _) (hT _) (hFr _) ?_ (hnewT _)
                intro i r j x hi hj
                obtain ⟨q1, u, q2, q3, q4⟩ := hown ⟨w.heap.size, sz, grownCap w (n + ys.length) pl.cap e, 0⟩ i r j x hi hj
                exact ⟨q1, u, by rw [List.getElem?_take, if_pos q3, List.getElem?_drop]; simpa [Nat.add_assoc] using q2, q4⟩
        · simp at h
      · simp at h
    · simp at h
  · simp at h
/-! ### Literals of rows that hold references -/
theorem rowsA_get (sz : Nat) : ∀ (n : Nat) (cs : List AV), cs.length = n * sz → (rowsA sz n cs).length = n ∧ (∀ r ∈ rowsA sz n cs, r.length = sz) ∧ ∀ (i : Nat) (r : List AV) (j : Nat) (d : AV), (rowsA sz n cs)[i]? = some r → r[j]? = some d → cs[i * sz + j]? = some d ∧ j < sz ∧ i < n
  | 0, cs, h => by simp [rowsA]
  | n + 1, cs, h => by
    have hl : sz ≤ cs.length := by rw [h, Nat.add_mul, Nat.one_mul]; omega
    obtain ⟨h1, h2, h3⟩ := rowsA_get sz n (cs.drop sz) (by rw [List.length_drop, h, Nat.add_mul, Nat.one_mul]; omega)
    refine ⟨by simp [rowsA, h1], ?_, ?_⟩
    · intro r hr
      simp only [rowsA, List.mem_cons] at hr
      rcases hr with rfl | hr
      · simp; omega
      · exact h2 r hr
    · intro i r j d hi hj
      cases i with
      | zero =>
        simp [rowsA] at hi; subst hi
        rw [List.getElem?_take] at hj
        split at hj
        · rename_i hjs; exact ⟨by simpa using hj, hjs, by omega⟩
        · simp at hj
      | succ i =>
        simp [rowsA] at hi
        obtain ⟨q1, q2, q3⟩ := h3 i r j d hi hj
        rw [List.getElem?_drop] at q1
        exact ⟨by rw [Nat.add_mul, Nat.one_mul, show i * sz + sz + j = sz + (i * sz + j) by omega]; exact q1, q2, by omega⟩
theorem replA_all {R : AV → Value → Prop} {zero : List AV} {z : List Value} (h : All2 R zero z) : ∀ n, All2 R (replA zero n) (List.replicate n z).flatten
  | 0 => .nil
  | n + 1 => by simp only [replA, List.replicate_succ, List.flatten_cons]; exact h.append (replA_all h n)
def chkBslA (P : Program) (o : Oper) (sz : Nat) (zero : List AV) (n : Nat) (ps : List (Nat × Nat × Opd)) : Bool := match o.op with
  | .buildSlice t n' parts => n' == n && slOf P t sz && (match P.underlying t with | some (.slice e) => zeroOk P e (fun z => cstL zero z.cells.toList && z.cells.size == sz && z.cells.toList.all Value.oneCell') | _ => false) && chkParts (fun i => some (i * sz, sz)) parts.toList ps &&
    decide (0 < sz) && decide (n * sz ≤ 16777216)
  | _ => false
theorem bslA_run {sz n : Nat} {zero cs : List AV} {ps : List (Nat × Nat × Opd)} {xs : List (Nat × List AV)} (hm : Mem B F ρ s.ob w) (hf : Fr F ρ s.ob s.fr a) (hc : chkBslA P o sz zero n ps = true) (h1 : s.partsA ps = some xs) (h2 : putParts (replA zero n) xs = some cs) :
    ∃ us e, All2 (AR1 F ρ s.ob) cs us ∧ cs.length = n * sz ∧ (execOp a.eval o).run P w = .ok (.value (.slice (some ⟨w.heap.size, 0, none⟩) n n)) (w.alloc (.cells us.toArray e)) ∧ ∀ key, tyKey P o key = true → KT ≤ key → e + 1 = key / KT := by
  unfold chkBslA at hc
  split at hc
  · rename_i t n' parts hop
    simp only [Bool.and_eq_true, decide_eq_true_eq, beq_iff_eq] at hc
    obtain ⟨⟨⟨⟨⟨rfl, hsl⟩, hz⟩, hparts⟩, hpos⟩, hbig⟩ := hc
    obtain ⟨e, ti, ht, hti, hsz⟩ := slOf_spec hsl
    rw [ht] at hz
    simp only at hz
    obtain ⟨i, z, hi, hz', hzc⟩ := zeroOk_spec hz
    simp only [Bool.and_eq_true, beq_iff_eq, List.all_eq_true] at hzc
    obtain ⟨⟨hzc, hzsz⟩, hzo⟩ := hzc
    rw [hti] at hi; simp only [Option.some.injEq] at hi; subst hi
    have hzl : z.cells.toList.length = sz := by simpa using hzsz
    obtain ⟨k1, k2, _⟩ := cstL_sound (F := F) (ρ := ρ) (ob := s.ob) hzc
    have hzall := replA_all (All2.one1 k1 k2) n'
    obtain ⟨us, hfill, hall, _⟩ := partsA_sound hf hparts h1 h2 hzall (fun u hu => by
      simp only [List.mem_flatten, List.mem_replicate] at hu
      obtain ⟨l, ⟨_, rfl⟩, hu⟩ := hu
      exact hzo u hu)
    have hlen : cs.length = n' * sz := by
      have hp : ∀ (l : List (Nat × List AV)) (c c' : List AV), putParts c l = some c' → c'.length = c.length := by
        intro l
        induction l with
        | nil => intro c c' h; simp only [putParts, Option.some.injEq] at h; rw [h]
        | cons p l ih =>
          intro c c' h
          obtain ⟨off, ds⟩ := p
          simp only [putParts] at h
          split at h
          · rename_i hle; rw [ih _ _ h, splice_length hle]
          · simp at h
      rw [hp _ _ _ h2, hzall.length]
      simp [hzl]
    have hcells : ((Array.range (n' * sz)).map (z.cells[· % z.cells.size]!)) = ((List.replicate n' z.cells.toList).flatten).toArray := by
      rw [← Array.toList_inj]
      apply List.ext_getElem?
      intro q
      by_cases hq : q < n' * sz
      · have hm := flatten_rep_get (z := z.cells.toList) (by omega) n' q (by rw [hzl]; exact hq)
        have hmod : q % z.cells.size < z.cells.size := Nat.mod_lt _ (by omega)
        simp only [Array.toList_map, Array.toList_range, List.getElem?_map, List.getElem?_range, hq, Option.map_some]
        rw [hm, hzl, ← hzsz, getElem!_pos z.cells _ hmod]
        simp [hmod]
      · rw [List.getElem?_eq_none (by simp; omega), List.getElem?_eq_none (by simp [hzl]; omega)]
    have hrun : (Instr.buildSlice t n' (parts.map fun p => (p.1, a.eval p.2))).run P w = .ok (.slice (some ⟨w.heap.size, 0, none⟩) n' n') (w.alloc (.cells us.toArray e)) := by
      have hmap : (Array.map (fun (p : Nat × Operand) => (p.1, a.eval p.2)) parts).toList = parts.toList.map fun p => (p.1, a.eval p.2) := by simp
      have hnb : ¬ (2 ^ 24 < n' * sz) := by omega
      have hsz' : (sizeOf e).run P w = .ok sz w := by simp [sizeOf, typeInfo, hti, hsz]
      by_cases h0 : n' * sz = 0
      · have hus : us = [] := List.eq_nil_of_length_eq_zero (by rw [← hall.length, hlen, h0])
        have hn0 : n' = 0 := by
          rcases Nat.eq_zero_or_pos n' with h | h
          · exact h
          · have := Nat.mul_pos h hpos; omega
        subst hn0
        have hr0 : (List.replicate 0 z.cells.toList).flatten.toArray = #[] := rfl
        rw [hr0] at hfill
        simp [Instr.buildSlice, run_underlying ht, hsz', newRow, Array.range_zero', hfill]
      · simp [Instr.buildSlice, run_underlying ht, hsz', hnb, h0, zeroValue, typeInfo, hti, hz', newRow]
        rw [hcells, hfill]
        rfl
    exact ⟨us, e, hall, hlen, by simp only [execOp, hop, Sem.run_bind, hrun, Result.andThen_ok, Sem.run_pure], fun key hT => by simp only [tyKey, hop, ht] at hT; exact tyKey_or (o := o) hT rfl⟩
  · simp at hc
theorem does_bsoA {key sz n : Nat} {zero cs : List AV} {ps : List (Nat × Nat × Opd)} {xs : List (Nat × List AV)} (hK : key < MK) (hTy : tyKey P o key = true) (hm : Mem B F ρ s.ob w) (hf : Fr F ρ s.ob s.fr a) (hc : chkBslA P o sz zero n ps = true) (h1 : s.partsA ps = some xs) (h2 : putParts (replA zero n) xs = some cs)
    (hfree : s.free key = true) (hone : ∀ c ∈ cs, c.one = true) (hnm : ∀ c ∈ cs, c.names key = false) : Does P o a w (Post B F w s.fr a (s.obj key ⟨sz, rowsA sz n cs⟩).ob (.sl key n 0 n)) := by
  obtain ⟨us, e, hall, hlen, hrun, hety⟩ := bslA_run hm hf hc h1 h2
  obtain ⟨r1, r2, r3⟩ := rowsA_get sz n cs hlen
  obtain ⟨hT, hFr⟩ := free_ar (F := F) (ρ := ρ) (a := a) (s := s) (o' := ⟨sz, rowsA sz n cs⟩) (p' := some ⟨w.heap.size, sz, n, 0⟩) hfree
  refine does_value (w' := w.alloc (.cells us.toArray e)) (u := .slice (some ⟨w.heap.size, 0, none⟩) n n) hrun ⟨F, updM ρ key (some ⟨w.heap.size, sz, n, 0⟩), ?_, hFr hf, sl_ar hK (p := ⟨w.heap.size, sz, n, 0⟩) (by simp [r1]) obj_same (updM_same _ _) (Nat.le_refl _), .refl F, (Below.refl _ _).alloc hm.big _, fun _ _ h => .inl h⟩
  refine Mem.change0 (et := e) hK (hety key hTy) hm hm.big (.inr (Nat.le_refl _)) (by simp) (fun k hk _ => Below.heap_alloc w _ k hk) (heap_alloc_new w _) (by simp [← hall.length, hlen]) (by simp [r1]) rfl (fun r hr => r2 r hr) hT ?_
  intro i r j x hi hj
  obtain ⟨q1, _, _⟩ := r3 i r j x hi hj
  obtain ⟨u, hu, hdr⟩ := hall.get? _ _ q1
  have hxm := List.mem_of_getElem? q1
  refine ⟨hone x hxm, u, by simpa using hu, ?_⟩
  exact (AR.of1 hdr).upd (hnm x hxm) (fun k hk => updM_other _ hk) (fun k hk => obj_other hk)
end
end Go.Am
