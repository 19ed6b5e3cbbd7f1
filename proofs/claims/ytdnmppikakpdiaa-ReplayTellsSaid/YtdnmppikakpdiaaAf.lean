/- Stores, append, make. -/
import Derived.Test.YtdnmppikakpdiaaAe
set_option linter.unusedVariables false
set_option linter.unusedSimpArgs false
namespace Go.Am
open Go.RowKit
section
variable {P : Program} {B : Nat} {F F' : Facts} {ρ ρ' : Map} {s : St} {a : Go.Act} {w w' : World} {o : Oper} {ob ob' : List (Nat × Obj)}

theorem row_below {g : Nat} {cs : Array Value} (hB : B ≤ g) : Below B w (w.setRow g cs) :=
  ⟨rfl, rfl, rfl, by simp [World.setRow], fun k hk => setRow_other w g k cs (by omega)⟩
def chkSto (P : Program) (o : Oper) (sz : Nat) (x v : Opd) : Bool := match o.op with | .store t x' v' => sized P t sz && chkO x' x && chkO v' v && o.dst.isNone | _ => false
theorem splice_get {α : Type} {cs xs : List α} {off j : Nat} (h : off + xs.length ≤ cs.length) : (splice cs off xs)[j]? = if off ≤ j ∧ j < off + xs.length then xs[j - off]? else cs[j]? := by
  unfold splice
  by_cases h1 : j < off
  · rw [if_neg (by omega), List.getElem?_append_left (by simp; omega), List.getElem?_append_left (by simp; omega), List.getElem?_take, if_pos h1]
  · by_cases h2 : j < off + xs.length
    · rw [if_pos (by omega), List.getElem?_append_left (by simp; omega), List.getElem?_append_right (by simp; omega)]
      congr 1; simp; omega
    · rw [if_neg (by omega), List.getElem?_append_right (by simp; omega), List.getElem?_drop]
      congr 1; simp; omega
theorem splice_length {α : Type} {cs xs : List α} {off : Nat} (h : off + xs.length ≤ cs.length) : (splice cs off xs).length = cs.length := by
  unfold splice; simp; omega
theorem setRow_get {rows : Rows} {i k : Nat} {r : List AV} (h : i < rows.length) : (setRow rows i r)[k]? = if k = i then some r else rows[k]? := by
  unfold setRow
  by_cases h1 : k < i
  · rw [if_neg (by omega), List.getElem?_append_left (by simp; omega), List.getElem?_take, if_pos h1]
  · by_cases h2 : k = i
    · subst h2; rw [if_pos rfl, List.getElem?_append_right (by simp; omega), List.length_take, Nat.min_eq_left (by omega), Nat.sub_self]; rfl
    · rw [if_neg h2, List.getElem?_append_right (by simp; omega)]
      rw [List.length_take, Nat.min_eq_left (by omega)]
      rw [show k - i = (k - i - 1) + 1 by omega, List.getElem?_cons_succ, List.getElem?_drop]
      congr 1; omega
theorem setRow_length {rows : Rows} {i : Nat} {r : List AV} (h : i < rows.length) : (setRow rows i r).length = rows.length := by
  unfold setRow; simp; omega
/-- A store into an own object. -/
theorem store_post {key row off : Nat} {obj : Obj} {p : Place} {r cs : List AV} {us : List Value} (hK : key < MK) (hm : Mem B F ρ s.ob w) (hf : Fr F ρ s.ob s.fr a) (hob : get s.ob key = some obj) (hρ : ρ key = some p) (hrow : obj.rows[row]? = some r) (hle : off + cs.length ≤ r.length)
    (hcs : All2 (AR F ρ s.ob) cs us) (hone : ∀ c ∈ cs, c.one = true) (h1 : ∀ u ∈ us, u.oneCell' = true) :
    ∃ w', (storeCells ⟨p.g, p.o + row * p.sz + off, none⟩ us).run P w = .ok () w' ∧ ∀ v u, AR F ρ s.ob v u → Post B F w s.fr a (s.obj key ⟨obj.sz, setRow obj.rows row (splice r off cs)⟩).ob v u w' := by
  obtain ⟨g1, g2, g3, g4, cur, et, hh, g5, g6⟩ := hm.cells hK hob hρ
  have hrl := g4 r (List.mem_of_getElem? hrow)
  have hlt := (List.getElem?_eq_some_iff.1 hrow).1
  have hlen := hcs.length
  have hidx : p.o + row * p.sz + p.sz ≤ cur.size := by
    have : (row + 1) * p.sz ≤ p.cap * p.sz := Nat.mul_le_mul_right _ (by omega)
    rw [Nat.add_mul, Nat.one_mul] at this
    rw [g5]; omega
  have hst := run_storeCells_at P p.g (p.o + row * p.sz + off) et us 0 cur w hh (by omega) h1
  simp only [Nat.add_zero] at hst
  refine ⟨_, hst, fun v u hvu => ?_⟩
  have hkeep : ∀ {x : AV} {v : Value}, AR F ρ s.ob x v → AR F (updM ρ key (some p)) (s.obj key ⟨obj.sz, setRow obj.rows row (splice r off cs)⟩).ob x v := by
    intro x v hx
    have he : updM ρ key (some p) = ρ := by
      funext k; unfold updM; split
      · rename_i hk; subst hk; exact hρ.symm
      · rfl
    rw [he]
    refine hx.same fun k o' ho' => ?_
    by_cases hk : k = key
    · subst hk
      rw [obj_same] at ho'; simp only [Option.some.injEq] at ho'; subst ho'
      exact ⟨obj, hob, fun _ => (setRow_length hlt).symm⟩
    · rw [obj_other hk] at ho'; exact ⟨o', ho', fun _ => rfl⟩
  have hty : KT ≤ key → et + 1 = key / KT := fun h => hm.typed hK hob hρ h _ _ _ hh
  refine ⟨F, updM ρ key (some p), ?_, fun i v hi => hkeep (hf i v hi), hkeep hvu, .refl F, row_below g1, fun _ _ h => .inl h⟩
  refine Mem.change (et := et) hK hty (hm.typed0 hK hob hρ) hm g1 (.inl ⟨obj, p, hob, hρ, rfl⟩) (by simp [World.setRow]) (fun k hk hne => setRow_other w _ k _ hne) (setRow_heap w _ cur _ et _ hh) ?_ ?_ g3 ?_ (fun k o hk ho r hr x hx v hv => hkeep hv) ?_
  · simp only [List.size_toArray, List.length_append, List.length_take, List.length_drop, Array.length_toList]
    rw [← g5]; omega
  · rw [setRow_length hlt]; exact g2
  · intro r' hr'
    obtain ⟨i, hi⟩ := List.getElem?_of_mem hr'
    rw [setRow_get hlt] at hi
    split at hi
    · simp only [Option.some.injEq] at hi; subst hi
      rw [splice_length hle]; exact hrl
    · exact g4 r' (List.mem_of_getElem? hi)
  · intro i r' j x hi hj
    have hspl : ∀ q, (cur.toList.take (p.o + row * p.sz + off) ++ us ++ cur.toList.drop (p.o + row * p.sz + off + us.length))[q]? = if p.o + row * p.sz + off ≤ q ∧ q < p.o + row * p.sz + off + us.length then us[q - (p.o + row * p.sz + off)]? else cur[q]? := by
      intro q
      have := splice_get (cs := cur.toList) (xs := us) (off := p.o + row * p.sz + off) (j := q) (by simp; omega)
      unfold splice at this
      rw [this, ← Array.getElem?_toList]
    rw [setRow_get hlt] at hi
    simp only [List.getElem?_toArray]
    rw [hspl]
    split at hi
    · rename_i hir; subst hir
      simp only [Option.some.injEq] at hi; subst hi
      rw [splice_get hle] at hj
      split at hj
      · rename_i hin
        obtain ⟨u', hu', har⟩ := hcs.get? _ _ hj
        refine ⟨hone x (List.mem_of_getElem? hj), u', ?_, hkeep har⟩
        rw [if_pos (by omega), show p.o + i * p.sz + j - (p.o + i * p.sz + off) = j - off by omega]; exact hu'
      · rename_i hin
        obtain ⟨q1, u', q2, q3⟩ := g6 i r j x hrow hj
        refine ⟨q1, u', ?_, hkeep q3⟩
        rw [if_neg (by omega)]; exact q2
    · rename_i hir
      obtain ⟨q1, u', q2, q3⟩ := g6 i r' j x hi hj
      refine ⟨q1, u', ?_, hkeep q3⟩
      have hjl : j < p.sz := by rw [← g4 r' (List.mem_of_getElem? hi)]; exact (List.getElem?_eq_some_iff.1 hj).1
      rw [if_neg ?_]; exact q2
      intro hc
      rcases Nat.lt_or_gt_of_ne hir with h | h
      · have : i * p.sz + p.sz ≤ row * p.sz := by rw [← Nat.succ_mul]; exact Nat.mul_le_mul_right _ h
        omega
      · have : row * p.sz + p.sz ≤ i * p.sz := by rw [← Nat.succ_mul]; exact Nat.mul_le_mul_right _ h
        omega
theorem does_sto {sz : Nat} {x v : Opd} {p q : AV} {s' : St} (hm : Mem B F ρ s.ob w) (hf : Fr F ρ s.ob s.fr a) (hc : chkSto P o sz x v = true) (h1 : s.opd x = some p) (h2 : s.opd v = some q) (h : s.store sz p q = some s') :
    s'.fr = s.fr ∧ Does P o a w (Post B F w s.fr a s'.ob (.tup [])) := by
  unfold chkSto at hc
  split at hc
  · rename_i t x' v' hop
    simp only [Bool.and_eq_true] at hc
    obtain ⟨⟨⟨hsz, hx⟩, hv⟩, hd⟩ := hc
    have hr1 := opd_sound hf hx h1
    have hr2 := opd_sound hf hv h2
    unfold St.store at h
    split at h
    · rename_i key row off
      split at h
      · rename_i obj cs hob hcs
        split at h
        · rename_i r hrow
          split at h
          · rename_i hcond
            simp only [Option.some.injEq] at h; subst h
            obtain ⟨us, hus, hall, h1', hone, _⟩ := cellsOf_sound hcs hr2
            obtain ⟨hK, hr1⟩ := hr1
            obtain ⟨pl, hρ, hpv⟩ := hr1 obj hob
            obtain ⟨w', hst, hpost⟩ := store_post (P := P) (row := row) (off := off) hK hm hf hob hρ hrow hcond.2 hall hone h1'
            refine ⟨rfl, does_skip (w' := w') ?_ (hpost (.tup []) undef ⟨[], rfl, .nil⟩)⟩
            have hl : (a.eval v').cells.size = sz := by rw [hus]; simp; rw [← hall.length]; exact hcond.1
            simp [execOp, hop, hpv, Instr.storeAt, sureAddr_ok, storeVar, run_sized hsz, hl]
            rw [hus]; simp [hst]
          · simp at h
        · simp at h
      · simp at h
    · simp at h
  · simp at hc

/-- A store of an own slice that is given up: as data. -/
theorem does_stoF {sz : Nat} {x v : Opd} {p q d : AV} {k : Option Nat} {s' : St} (hm : Mem B F ρ s.ob w) (hf : Fr F ρ s.ob s.fr a) (hc : chkSto P o sz x v = true) (h1 : s.opd x = some p) (h2 : s.opd v = some q) (h3 : s.frz q = some (d, k)) (h : (kill s k.toList).store sz p d = some s') :
    s'.fr = s.fr ∧ Does P o a w (Post B F w s.fr a s'.ob (.tup [])) := by
  unfold chkSto at hc
  split at hc
  · rename_i t x' v' hop
    simp only [Bool.and_eq_true] at hc
    obtain ⟨⟨⟨hsz, hx⟩, hv⟩, hd⟩ := hc
    have hm1 : Mem B (FrzF F ρ s.ob k.toList w) ρ (kill s k.toList).ob w := hm.kill
    have hf1 : Fr (FrzF F ρ s.ob k.toList w) ρ (kill s k.toList).ob (kill s k.toList).fr a := by rw [kill_fr]; exact (hf.mono FrzF.le).sub (kill_sub _ s)
    have hr1 : AR (FrzF F ρ s.ob k.toList w) ρ (kill s k.toList).ob p (a.eval x') := ((opd_sound hf hx h1).mono FrzF.le).sub (kill_sub _ s)
    have hr2 : AR (FrzF F ρ s.ob k.toList w) ρ (kill s k.toList).ob d (a.eval v') := AR.of_RR (frz_sound hm h3 (opd_sound hf hv h2))
    unfold St.store at h
    split at h
    · rename_i key row off
      split at h
      · rename_i obj cs hob hcs
        split at h
        · rename_i r hrow
          split at h
          · rename_i hcond
            simp only [Option.some.injEq] at h; subst h
            obtain ⟨us, hus, hall, h1', hone, _⟩ := cellsOf_sound hcs hr2
            obtain ⟨hK, hr1⟩ := hr1
            obtain ⟨pl, hρ, hpv⟩ := hr1 obj hob
            obtain ⟨w', hst, hpost⟩ := store_post (P := P) (row := row) (off := off) hK hm1 hf1 hob hρ hrow hcond.2 hall hone h1'
            refine ⟨kill_fr _ _, does_skip (w' := w') ?_ ?_⟩
            · have hl : (a.eval v').cells.size = sz := by rw [hus]; simp; rw [← hall.length]; exact hcond.1
              simp [execOp, hop, hpv, Instr.storeAt, sureAddr_ok, storeVar, run_sized hsz, hl]
              rw [hus]; simp [hst]
            · obtain ⟨F', ρ', g1, g2, g3, g4⟩ := hpost (.tup []) undef ⟨[], rfl, .nil⟩
              rw [kill_fr] at g2
              exact ⟨F', ρ', g1, g2, g3, (Ext.trans ⟨FrzF.le, .refl _ _, fun ad u hu => FrzF.new hm hu⟩ g4)⟩
          · simp at h
        · simp at h
      · simp at h
    · simp at h
  · simp at hc

/-! ### Append -/
theorem src_sound {y : AV} {v : Value} {sz : Nat} {ys : List (List D)} {tx : TypeId} (hpos : 0 < sz) (hm : Mem B F ρ s.ob w) (h : srcRows s y = some (sz, ys)) (hr : AR F ρ s.ob y v) (hk : (∃ e', P.underlying tx = some (.slice e')) ∨ P.underlying tx = some .string) :
    ∃ news : List Value, Src P sz tx v ys.length news w ∧ (∀ r ∈ ys, r.length = sz) ∧ ∀ (i : Nat) (r : List D) (j : Nat) (d : D), ys[i]? = some r → r[j]? = some d → ∃ u, news[i * sz + j]? = some u ∧ DR F d u := by
  unfold srcRows at h
  split at h
  · rename_i l
    simp only [Option.some.injEq, Prod.mk.injEq] at h
    obtain ⟨rfl, rfl⟩ := h
    obtain rfl := DR.str_ hr
    have hsz : (ByteArray.mk l.toArray).size = l.length := by simp [ByteArray.size]
    refine ⟨byteCells ⟨l.toArray⟩, ?_, by simp [u8row], ?_⟩
    · have h1 := firstCells_string (P := P) ⟨l.toArray⟩
      have h2 := byteCells_length ⟨l.toArray⟩
      rw [hsz] at h1 h2
      exact ⟨hk, fun w' => by simp [Builtin.lenOf, hsz], by simpa using h1 w, by simpa using h1 w.drew, by simp [h2], fun u hu => by
        obtain ⟨_, _, rfl⟩ := List.mem_map.1 hu; rfl⟩
    · intro i r j d hi hj
      simp only [List.getElem?_map, Option.map_eq_some_iff] at hi
      obtain ⟨b, hb, rfl⟩ := hi
      cases j with
      | zero =>
        simp [u8row] at hj; subst hj
        exact ⟨.int .u8 b.toNat, by simp [byteCells, hb], .int _ _⟩
      | succ j => simp [u8row] at hj
  · obtain ⟨x, cap, ad, u, rfl, hcap, ha, hsz, hc⟩ := view_sound hm h hr
    by_cases hne : ys = []
    · subst hne
      refine ⟨[], ?_, by simp, by simp⟩
      cases x with
      | none => exact ⟨hk, fun w' => by simp [Builtin.lenOf], by simp [Builtin.firstCells], by simp [Builtin.firstCells], by simp, by simp⟩
      | some b => exact ⟨hk, fun w' => by simp [Builtin.lenOf], by simp [Builtin.firstCells, loadCells, loadCellsFrom], by simp [Builtin.firstCells, loadCells, loadCellsFrom], by simp, by simp⟩
    · obtain rfl := ha hne
      have cell : ∀ q, q < ys.length * sz → ∃ d, w.cell? (ad.add q) = some (u (q / sz) (q % sz)) ∧ DR F d (u (q / sz) (q % sz)) := by
        intro q hq
        have h1 : q / sz < ys.length := Nat.div_lt_of_lt_mul (by rw [Nat.mul_comm]; exact hq)
        have h2 : q % sz < sz := Nat.mod_lt _ hpos
        have hi : ys[q / sz]? = some (ys[q / sz]) := List.getElem?_eq_getElem h1
        have hl := hsz _ (List.getElem_mem h1)
        have hj : (ys[q / sz])[q % sz]? = some ((ys[q / sz])[q % sz]'(by omega)) := List.getElem?_eq_getElem _
        have := hc _ _ _ _ hi hj
        rw [show q / sz * sz + q % sz = q by rw [Nat.mul_comm]; exact Nat.div_add_mod q sz] at this
        exact ⟨_, this.1, this.2⟩
      refine ⟨(List.range (ys.length * sz)).map fun q => u (q / sz) (q % sz), ?_, hsz, ?_⟩
      · have hnews : ∀ j v, ((List.range (ys.length * sz)).map fun q => u (q / sz) (q % sz))[j]? = some v → w.cell? (ad.add j) = some v := by
          intro j v hj
          have hjl : j < ys.length * sz := by have := (List.getElem?_eq_some_iff.1 hj).1; simpa using this
          simp [hjl] at hj; subst hj
          exact (cell j hjl).choose_spec.1
        have h1 : ∀ v ∈ ((List.range (ys.length * sz)).map fun q => u (q / sz) (q % sz)), v.oneCell' = true := by
          intro v hv
          simp only [List.mem_map, List.mem_range] at hv
          obtain ⟨q, hq, rfl⟩ := hv
          exact DR.one (cell q hq).choose_spec.2
        exact ⟨hk, fun _ => rfl, run_firstCells_some w sz _ ad _ cap _ (by simp) hnews, run_firstCells_some w.drew sz _ ad _ cap _ (by simp) (by simpa using hnews), by simp, h1⟩
      · intro i r j d hi hj
        have hil := (List.getElem?_eq_some_iff.1 hi).1
        have hjl : j < sz := by rw [← hsz r (List.mem_of_getElem? hi)]; exact (List.getElem?_eq_some_iff.1 hj).1
        have hlt : i * sz + j < ys.length * sz := by
          have : (i + 1) * sz ≤ ys.length * sz := Nat.mul_le_mul_right _ hil
          rw [Nat.add_mul, Nat.one_mul] at this; omega
        refine ⟨u i j, ?_, (hc i r j d hi hj).2⟩
        have hdiv : (i * sz + j) / sz = i := by rw [Nat.mul_comm, Nat.mul_add_div hpos, Nat.div_eq_of_lt hjl]; rfl
        have hmod : (i * sz + j) % sz = j := by rw [Nat.mul_comm, Nat.mul_add_mod, Nat.mod_eq_of_lt hjl]
        simp [hlt, hdiv, hmod]
theorem Mem.congr (hm : Mem B F ρ ob w) (hget : ∀ k, get ob' k = get ob k) : Mem B F ρ ob' w :=
  ⟨hm.facts, hm.big, fun k o h => hm.bare k o (by rw [← hget]; exact h), fun k o p h h' => by
    obtain ⟨q1, q2⟩ := hm.own k o p (by rw [← hget]; exact h) h'
    exact ⟨q1, q2.imp fun r hr x hx v hv => hv.sub fun k o h => by rw [← hget]; exact h⟩, fun k o p h h' => hm.apart k o p (by rw [← hget]; exact h) h',
    fun k o p k2 o2 p2 h h' h2 h2' => hm.inj k o p k2 o2 p2 (by rw [← hget]; exact h) h' (by rw [← hget]; exact h2) h2'⟩
theorem Mem.newBare {key sz : Nat} (hm : Mem B F ρ s.ob w) (hfree : s.free key = true) : Mem B F (updM ρ key none) (s.obj key ⟨sz, []⟩).ob w where
  facts := hm.facts
  big := hm.big
  bare := fun k o ho hk => by
    rw [get_obj] at ho
    by_cases h : key = k
    · rw [if_pos h] at ho; simp only [Option.some.injEq] at ho; subst ho; rfl
    · rw [if_neg h] at ho
      rw [updM_other _ (Ne.symm h)] at hk
      exact hm.bare k o ho hk
  own := fun k o p ho hk => by
    rw [get_obj] at ho
    by_cases h : key = k
    · subst h; rw [updM_same] at hk; simp at hk
    · rw [if_neg h] at ho
      rw [updM_other _ (Ne.symm h)] at hk
      obtain ⟨g1, g2⟩ := hm.own k o p ho hk
      exact ⟨g1, g2.imp fun r hr x hx v hv => (free_ar (a := ⟨#[], []⟩) hfree).1 k o (Ne.symm h) ho r hr x hx v hv⟩
  apart := fun k o p ho hk ad u hu => by
    rw [get_obj] at ho
    by_cases h : key = k
    · subst h; rw [updM_same] at hk; simp at hk
    · rw [if_neg h] at ho
      rw [updM_other _ (Ne.symm h)] at hk
      exact hm.apart k o p ho hk ad u hu
  inj := fun k o p k2 o2 p2 ho hk ho2 hk2 he => by
    rw [get_obj] at ho ho2
    by_cases h : key = k
    · subst h; rw [updM_same] at hk; simp at hk
    · by_cases h2 : key = k2
      · subst h2; rw [updM_same] at hk2; simp at hk2
      · rw [if_neg h] at ho
        rw [if_neg h2] at ho2
        rw [updM_other _ (Ne.symm h)] at hk
        rw [updM_other _ (Ne.symm h2)] at hk2
        exact hm.inj k o p k2 o2 p2 ho hk ho2 hk2 he
theorem sl_ar {key n : Nat} {p : Place} {o' : Obj} {ob' : List (Nat × Obj)} (hK : key < MK) (hl : o'.rows.length = n) (h : get ob' key = some o') (hρ : ρ key = some p) (hcap : n ≤ p.cap) : AR F ρ ob' (.sl key n 0 n) (.slice (some ⟨p.g, p.o, none⟩) n p.cap) := by
  refine ⟨hK, fun o ho => ?_⟩
  rw [h] at ho; simp only [Option.some.injEq] at ho; subst ho
  refine ⟨by omega, fun _ _ => ?_⟩
  unfold SlR
  rw [hρ]
  exact ⟨by omega, _, by rw [Nat.sub_zero], fun _ => by simp⟩
theorem rows_cell {rows : List (List D)} {sz : Nat} {us : List Value} (h : ∀ (i : Nat) (r : List D) (j : Nat) (d : D), rows[i]? = some r → r[j]? = some d → ∃ u, us[i * sz + j]? = some u ∧ DR F d u) :
    ∀ (i : Nat) (r : List AV) (j : Nat) (x : AV), (rows.map toAV)[i]? = some r → r[j]? = some x → x.one = true ∧ ∃ u, us[i * sz + j]? = some u ∧ AR F ρ ob x u := by
  intro i r j x hi hj
  simp only [List.getElem?_map, Option.map_eq_some_iff] at hi
  obtain ⟨r0, hr0, rfl⟩ := hi
  simp only [toAV, List.getElem?_map, Option.map_eq_some_iff] at hj
  obtain ⟨d, hd, rfl⟩ := hj
  obtain ⟨u, hu, hdr⟩ := h i r0 j d hr0 hd
  exact ⟨rfl, u, hu, hdr⟩
def chkApp (P : Program) (o : Oper) (sz bytes : Nat) (x y : Opd) : Bool := match o.op with
  | .call { callee := .builtin .append, args, argTypes } => chkArgs args.toList [x, y] && (match argTypes.toList with
    | [t, tx] => (isSl P tx || isStr P tx) && (match P.underlying t with
      | some (.slice e) => (match P.info? e with | some i => i.size == sz && i.bytes == bytes && (match i.zero with | some z => z.cells.size == sz | none => false) | none => false)
      | _ => false)
    | _ => false) && decide (0 < sz) && decide (0 < bytes)
  | _ => false
theorem room_spec {n bytes : Nat} (h : room n bytes = true) : n * bytes ≤ 140737488355328 := by simpa [room] using h
/-- A row that grows into a new block. -/
theorem grow_post {key n sz m cap : Nat} {e : TypeId} {olds news : List Value} {z : Value} {rows : Rows} {ys : List (List D)} (hK : key < MK) (hty : KT ≤ key → e + 1 = key / KT) (hm : Mem B F ρ s.ob w) (hpos : 0 < sz)
    (hrl : ∀ r ∈ rows, r.length = sz) (hn : rows.length = n) (hol : olds.length = n * sz) (hnl : news.length = m * sz) (hml : ys.length = m) (hyl : ∀ r ∈ ys, r.length = sz) (hzs : z.cells.size = sz) (hcap : n + m ≤ cap)
    (hT : ∀ k o, k ≠ key → get s.ob k = some o → ∀ r ∈ o.rows, ∀ x ∈ r, ∀ v, AR F ρ s.ob x v → AR F (updM ρ key (some ⟨w.heap.size, sz, cap, 0⟩)) (s.obj key ⟨sz, rows ++ ys.map toAV⟩).ob x v)
    (hfr : Fr F (updM ρ key (some ⟨w.heap.size, sz, cap, 0⟩)) (s.obj key ⟨sz, rows ++ ys.map toAV⟩).ob s.fr a)
    (hold : ∀ (i : Nat) (r : List AV) (j : Nat) (x : AV), rows[i]? = some r → r[j]? = some x → x.one = true ∧ ∃ u, olds[i * sz + j]? = some u ∧ AR F (updM ρ key (some ⟨w.heap.size, sz, cap, 0⟩)) (s.obj key ⟨sz, rows ++ ys.map toAV⟩).ob x u)
    (hnew : ∀ (i : Nat) (r : List D) (j : Nat) (d : D), ys[i]? = some r → r[j]? = some d → ∃ u, news[i * sz + j]? = some u ∧ DR F d u) :
    Post B F w s.fr a (s.obj key ⟨sz, rows ++ ys.map toAV⟩).ob (.sl key (n + m) 0 (n + m)) (.slice (some ⟨w.heap.size, 0, none⟩) (n + m) cap) (w.drew.alloc (.cells ((olds ++ news).toArray ++ Builtin.zeroCells z.cells (cap - (n + m))) e)) := by
  have hlen : (rows ++ ys.map toAV).length = n + m := by simp [hn, hml]
  refine ⟨F, updM ρ key (some ⟨w.heap.size, sz, cap, 0⟩), ?_, hfr, sl_ar hK hlen obj_same (updM_same _ _) hcap, .refl F, ?_, fun _ _ h => .inl h⟩
  · refine Mem.change0 (cs := (olds ++ news).toArray ++ Builtin.zeroCells z.cells (cap - (n + m))) (et := e) hK hty hm hm.big (.inr (Nat.le_refl _)) (by simp) (fun k hk _ => Below.heap_alloc w.drew _ k hk) (heap_alloc_new w.drew _) ?_ (by rw [hlen]; exact hcap) rfl ?_ hT ?_
    · simp only [Array.size_append, List.size_toArray, List.length_append, size_zeroCells, hzs, hol, hnl, ← Nat.add_mul]
      congr 1; omega
    · intro r hr
      rcases List.mem_append.1 hr with hr | hr
      · exact hrl r hr
      · obtain ⟨r0, hr0, rfl⟩ := List.mem_map.1 hr
        simp [toAV, hyl r0 hr0]
    · intro i r j x hi hj
      have hjl : j < sz := by
        have : r ∈ rows ++ ys.map toAV := List.mem_of_getElem? hi
        have hrs : r.length = sz := by
          rcases List.mem_append.1 this with hr | hr
          · exact hrl r hr
          · obtain ⟨r0, hr0, rfl⟩ := List.mem_map.1 hr; simp [toAV, hyl r0 hr0]
        rw [← hrs]; exact (List.getElem?_eq_some_iff.1 hj).1
      have hcell : ∀ (q : Nat) (u : Value), (olds ++ news)[q]? = some u → ((olds ++ news).toArray ++ Builtin.zeroCells z.cells (cap - (n + m)))[q]? = some u := by
        intro q u hq
        have hql := (List.getElem?_eq_some_iff.1 hq).1
        rw [Array.getElem?_append_left (by simpa using hql)]
        simpa using hq
      rcases Nat.lt_or_ge i n with hin | hin
      · rw [List.getElem?_append_left (by omega)] at hi
        obtain ⟨q1, u, q2, q3⟩ := hold i r j x hi hj
        refine ⟨q1, u, hcell _ _ ?_, q3⟩
        have := (List.getElem?_eq_some_iff.1 q2).1
        rw [List.getElem?_append_left this]; exact q2
      · rw [List.getElem?_append_right (by omega), hn] at hi
        obtain ⟨q1, u, q2, q3⟩ := rows_cell hnew (i - n) r j x hi hj
        refine ⟨q1, u, hcell _ _ ?_, q3⟩
        have he : i * sz = n * sz + (i - n) * sz := by rw [← Nat.add_mul]; congr 1; omega
        rw [List.getElem?_append_right (by rw [hol, he]; omega), hol]
        rw [show i * sz + j - n * sz = (i - n) * sz + j by omega]; exact q2
  · exact (Below.refl B w).trans ⟨rfl, rfl, rfl, by simp, fun k hk => Below.heap_alloc w.drew _ k (Nat.lt_of_lt_of_le hk hm.big)⟩

theorem append_run {x y : Operand} {t tx : TypeId} (hop : o.op = .call { callee := .builtin .append, args := #[x, y], argTypes := #[t, tx] }) {u : Value} (h : (Builtin.append_ #[t, tx] o.type #[a.eval x, a.eval y]).run P w = .ok u w') :
    (execOp a.eval o).run P w = .ok (.value u) w' := by
  simp [execOp, hop, resolve, invoke, builtin, h]
theorem run_append_nothing (w : World) (t tx ty e : TypeId) (i : TypeInfo) (ht : P.underlying t = some (.slice e)) (hi : P.info? e = some i) (base : Option Addr) (n c : Nat) (hle : n ≤ c) (x : Value) (hs : Src P i.size tx x 0 [] w) :
    (Builtin.append_ #[t, tx] ty #[.slice base n c, x]).run P w = .ok (.slice base n c) w := by
  rcases hs.kind with ⟨e', hk⟩ | hk <;> cases base <;> simp [Builtin.append_, run_underlying ht, run_underlying hk, sizeOf, typeInfo, hi, hs.len, hle, hs.cells, storeCells]
/-- append onto a slice without room and without elements. -/
theorem append_bare {x y : Operand} {t tx e : TypeId} {i : TypeInfo} {z : Value} {key sz : Nat} {ys : List (List D)} {news : List Value} (hK : key < MK) (hty : KT ≤ key → e + 1 = key / KT) (hm : Mem B F ρ s.ob w)
    (hop : o.op = .call { callee := .builtin .append, args := #[x, y], argTypes := #[t, tx] }) (ht : P.underlying t = some (.slice e)) (hi : P.info? e = some i) (hz : i.zero = some z) (hsz : i.size = sz) (hzs : z.cells.size = sz) (hpos : 0 < sz) (hb : 0 < i.bytes)
    (hx : a.eval x = .slice none 0 0) (hs : Src P sz tx (a.eval y) ys.length news w) (hyl : ∀ r ∈ ys, r.length = sz) (hnew : ∀ (i : Nat) (r : List D) (j : Nat) (d : D), ys[i]? = some r → r[j]? = some d → ∃ u, news[i * sz + j]? = some u ∧ DR F d u)
    (hroom : ys.length * i.bytes ≤ 140737488355328)
    (hT0 : ys = [] → Mem B F (updM ρ key none) (s.obj key ⟨sz, []⟩).ob w ∧ Fr F (updM ρ key none) (s.obj key ⟨sz, []⟩).ob s.fr a)
    (hT : ys ≠ [] → ∀ p', (∀ k o, k ≠ key → get s.ob k = some o → ∀ r ∈ o.rows, ∀ x ∈ r, ∀ v, AR F ρ s.ob x v → AR F (updM ρ key (some p')) (s.obj key ⟨sz, ys.map toAV⟩).ob x v) ∧ Fr F (updM ρ key (some p')) (s.obj key ⟨sz, ys.map toAV⟩).ob s.fr a) :
    Does P o a w (Post B F w s.fr a (s.obj key ⟨sz, ys.map toAV⟩).ob (.sl key ys.length 0 ys.length)) := by
  by_cases hne : ys = []
  · subst hne
    have hn0 : news = [] := List.eq_nil_of_length_eq_zero (by simpa using hs.newsLen)
    subst hn0
    subst hsz
    have hrun := run_append_nothing (P := P) w t tx o.type e i ht hi none 0 0 (Nat.le_refl _) (a.eval y) hs
    refine does_value (append_run hop (by rw [hx]; exact hrun)) ⟨F, updM ρ key none, (hT0 rfl).1, (hT0 rfl).2, ?_, .refl B F w⟩
    refine ⟨hK, fun o ho => ?_⟩
    rw [obj_same] at ho; simp only [Option.some.injEq] at ho; subst ho
    exact ⟨by simp, fun _ _ => by unfold SlR; rw [updM_same]; exact ⟨rfl, rfl⟩⟩
  · subst hsz
    have hlp : 0 < ys.length := List.length_pos_iff.2 hne
    have h1 : ys.length ≤ ys.length * i.bytes := Nat.le_mul_of_pos_right _ hb
    have hrun := run_append_grow_src (P := P) w t tx o.type e i z ht hi hz none 0 0 [] (by simp [Builtin.firstCells, loadCells, loadCellsFrom]) (a.eval y) ys.length news hs (by omega) (by omega) (growslice_fits (by omega) (by rw [Nat.zero_add]; exact hroom))
    refine does_value (append_run hop (by rw [hx]; exact hrun)) ?_
    have := grow_post (a := a) (key := key) (n := 0) (m := ys.length) (cap := grownCap w (0 + ys.length) 0 e) (e := e) (olds := []) (news := news) (z := z) (rows := []) (ys := ys) hK hty hm hpos (by simp) rfl (by simp) hs.newsLen rfl hyl hzs (grownCap_ge w _ _ _)
      (by simpa using (hT hne ⟨w.heap.size, i.size, grownCap w (0 + ys.length) 0 e, 0⟩).1) (by simpa using (hT hne ⟨w.heap.size, i.size, grownCap w (0 + ys.length) 0 e, 0⟩).2) (by simp) hnew
    simpa using this
theorem chkApp_spec {sz bytes : Nat} {x y : Opd} (hc : chkApp P o sz bytes x y = true) : ∃ x' y' t tx e i z, o.op = .call { callee := .builtin .append, args := #[x', y'], argTypes := #[t, tx] } ∧ chkO x' x = true ∧ chkO y' y = true ∧
    ((∃ e', P.underlying tx = some (.slice e')) ∨ P.underlying tx = some .string) ∧ P.underlying t = some (.slice e) ∧ P.info? e = some i ∧ i.zero = some z ∧ i.size = sz ∧ i.bytes = bytes ∧ z.cells.size = sz ∧ 0 < sz ∧ 0 < bytes := by
  unfold chkApp at hc
  split at hc
  · rename_i args ats hop
    simp only [Bool.and_eq_true, decide_eq_true_eq] at hc
    obtain ⟨⟨⟨hargs, hat⟩, hp1⟩, hp2⟩ := hc
    obtain ⟨l⟩ := args
    match l, hargs with
    | [x', y'], hargs =>
      simp only [chkArgs, Bool.and_eq_true] at hargs
      split at hat
      · rename_i t tx hats
        have et : ats = #[t, tx] := by rw [← Array.toList_inj]; exact hats
        subst et
        simp only [Bool.and_eq_true, Bool.or_eq_true] at hat
        obtain ⟨hk, hat⟩ := hat
        split at hat
        · rename_i e he
          split at hat
          · rename_i i hi
            simp only [Bool.and_eq_true, beq_iff_eq] at hat
            obtain ⟨⟨h1, h2⟩, h3⟩ := hat
            split at h3
            · rename_i z hz
              exact ⟨x', y', t, tx, e, i, z, hop, hargs.1, hargs.2.1, hk.imp isSl_spec isStr_spec, he, hi, hz, h1, h2, by simpa using h3, hp1, hp2⟩
            · simp at h3
          · simp at hat
        · simp at hat
      · simp at hat
    | [], hargs => simp [chkArgs] at hargs
    | [_], hargs => simp [chkArgs] at hargs
    | _ :: _ :: _ :: _, hargs => simp [chkArgs] at hargs
  · simp at hc
theorem does_app {key sz bytes : Nat} {x y : Opd} {p q v : AV} {s' : St} {ys : List (List D)} (hK0 : key < MK) (hT : tyKey P o key = true) (hm : Mem B F ρ s.ob w) (hf : Fr F ρ s.ob s.fr a) (hc : chkApp P o sz bytes x y = true) (h1 : s.opd x = some p) (h2 : s.opd y = some q) (h3 : srcRows s q = some (sz, ys))
    (h : appendTo s key sz bytes p ys = some (v, s')) : s'.fr = s.fr ∧ Does P o a w (Post B F w s.fr a s'.ob v) := by
  obtain ⟨x', y', t, tx, e, i, z, hop, hx, hy, hk, ht, hi, hz, hsz, hby, hzs, hpos, hpb⟩ := chkApp_spec hc
  have hr1 := opd_sound hf hx h1
  have hr2 := opd_sound hf hy h2
  have hty0 : KT ≤ key → e + 1 = key / KT := by simp only [tyKey, hop, ht] at hT; exact tyKey_or (o := o) hT rfl
  obtain ⟨news, hs, hyl, hnew⟩ := src_sound (tx := tx) hpos hm h3 hr2 hk
  unfold appendTo at h
  split at h
  · rename_i z0
    split at h
    · rename_i hcond
      simp only [Bool.and_eq_true] at hcond
      obtain ⟨rfl, hroom, hfree⟩ := hcond
      simp only [Option.some.injEq, Prod.mk.injEq] at h
      obtain ⟨rfl, rfl⟩ := h
      have hb : a.eval x' = .slice none 0 0 := hr1
      refine ⟨rfl, append_bare hK0 hty0 hm hop ht hi hz hsz hzs hpos (by omega) hb hs hyl hnew (by rw [hby]; exact room_spec hroom) (fun _ => ⟨hm.newBare hfree, (free_ar hfree).2 hf⟩) fun _ p' => ?_⟩
      exact ⟨(free_ar (a := a) hfree).1, (free_ar hfree).2 hf⟩
    · simp at h
  · rename_i k ver n
    split at h
    · rename_i obj hob
      split at h
      · rename_i hcond
        obtain ⟨hver, rfl, hosz⟩ := hcond
        split at h
        · rename_i hcond2
          simp only [Bool.and_eq_true] at hcond2
          obtain ⟨⟨hroom, hnl⟩, hteq⟩ := hcond2
          have hty : KT ≤ k → e + 1 = k / KT := by
            intro h
            simp only [tyEq, Bool.or_eq_true, decide_eq_true_eq, beq_iff_eq] at hteq
            rcases hteq with h1 | h1
            · omega
            · rw [h1]; refine hty0 ?_
              have h2 : 1 ≤ k / KT := (Nat.one_le_div_iff (by unfold KT; omega)).2 h
              rw [h1] at h2
              exact (Nat.one_le_div_iff (by unfold KT; omega)).1 h2
          simp only [Option.some.injEq, Prod.mk.injEq] at h
          obtain ⟨rfl, rfl⟩ := h
          refine ⟨rfl, ?_⟩
          obtain ⟨hK, hr1⟩ := hr1
          have hsl := (hr1 obj hob).2 hver (by omega)
          have hroom := room_spec hroom
          obtain ⟨hl1, hl2⟩ := noLoc_spec hnl
          unfold SlR at hsl
          -- what a longer object lets through
          have more : ∀ (p' : Option Place), ys ≠ [] → ∀ {x : AV} {v : Value}, x.isLoc k = false → AR F ρ s.ob x v → AR F (updM ρ k p') (s.obj k ⟨sz, obj.rows ++ ys.map toAV⟩).ob x v := by
            intro p' hne x v hxl hv
            exact hv.more hK hxl (fun k hk => updM_other _ hk) (fun k hk => obj_other hk) hob obj_same (by have := List.length_pos_iff.2 hne; simp; omega)
          cases hρ : ρ k with
          | none =>
            rw [hρ] at hsl
            obtain ⟨rfl, hb⟩ := hsl
            have hrows := hm.bare k obj hob hρ
            have hobj : obj = ⟨sz, []⟩ := by cases obj; simp_all
            subst hobj
            have hupd : updM ρ k none = ρ := by funext j; unfold updM; split <;> simp_all
            have hget : ∀ j, get (s.obj k ⟨sz, []⟩).ob j = get s.ob j := by
              intro j; rw [get_obj]; split
              · rename_i hj; subst hj; exact hob.symm
              · rfl
            simp only [Nat.zero_add, List.nil_append] at *
            refine append_bare hK hty hm hop ht hi hz hsz hzs hpos (by omega) hb hs hyl hnew (by rw [hby]; exact hroom) (fun _ => ⟨?_, ?_⟩) fun hne p' => ⟨?_, ?_⟩
            · rw [hupd]; exact hm.congr hget
            · rw [hupd]; exact hf.sub fun k o h => by rw [← hget]; exact h
            · intro k' o' hk' ho' r hr x hx v hv
              have := more (some p') hne (hl2 k' o' ho' r hr x hx) hv
              simpa using this
            · intro i v hi
              have := more (some p') hne (hl1 i v hi) (hf i v hi)
              simpa using this
          | some pl =>
            rw [hρ] at hsl
            obtain ⟨hcap, b, hb, ha⟩ := hsl
            obtain rfl := ha (.inr rfl)
            rw [Nat.sub_zero, Nat.zero_mul, Nat.add_zero] at hb
            obtain ⟨g1, g2, g3, g4, cs, et, hh, g5, g6⟩ := hm.cells hK hob hρ
            have hplsz : pl.sz = sz := by rw [g3, hosz]
            by_cases hne : ys = []
            · subst hne
              have hn0 : news = [] := List.eq_nil_of_length_eq_zero (by simpa using hs.newsLen)
              subst hn0
              subst hsz
              have hrun := run_append_nothing (P := P) w t tx o.type e i ht hi (some ⟨pl.g, pl.o, none⟩) n pl.cap (by omega) (a.eval y') hs
              have hget : ∀ j, get (s.obj k ⟨i.size, obj.rows ++ List.map toAV []⟩).ob j = get s.ob j := by
                intro j; rw [get_obj]; split
                · rename_i hj; subst hj; rw [hob]; cases obj; simp_all
                · rfl
              refine does_value (append_run hop (by rw [hb]; exact hrun)) ⟨F, ρ, hm.congr hget, hf.sub fun k o h => by rw [← hget]; exact h, ?_, .refl B F w⟩
              simp only [List.length_nil, Nat.add_zero]
              exact sl_ar hK (o' := ⟨i.size, obj.rows ++ List.map toAV []⟩) (by simpa using hver) obj_same hρ (by omega)
            · have hlp : 0 < ys.length := List.length_pos_iff.2 hne
              have hbl : n + ys.length ≤ (n + ys.length) * bytes := Nat.le_mul_of_pos_right _ hpb
              have hT : ∀ p', ∀ k' o, k' ≠ k → get s.ob k' = some o → ∀ r ∈ o.rows, ∀ x ∈ r, ∀ v, AR F ρ s.ob x v → AR F (updM ρ k (some p')) (s.obj k ⟨sz, obj.rows ++ ys.map toAV⟩).ob x v :=
                fun p' k' o' hk' ho' r hr x hx v hv => more (some p') hne (hl2 k' o' ho' r hr x hx) hv
              have hFr : ∀ p', Fr F (updM ρ k (some p')) (s.obj k ⟨sz, obj.rows ++ ys.map toAV⟩).ob s.fr a := fun p' i v hi => more (some p') hne (hl1 i v hi) (hf i v hi)
              have hnsz : pl.o + n * sz ≤ cs.size := by have := Nat.mul_le_mul_right sz (show n ≤ pl.cap by omega); rw [g5, hplsz]; omega
              have hown : ∀ p', ∀ (i : Nat) (r : List AV) (j : Nat) (x : AV), obj.rows[i]? = some r → r[j]? = some x → x.one = true ∧ ∃ u, cs[pl.o + i * sz + j]? = some u ∧ i * sz + j < n * sz ∧ AR F (updM ρ k (some p')) (s.obj k ⟨sz, obj.rows ++ ys.map toAV⟩).ob x u := by
                intro p' i r j x hi hj
                obtain ⟨q1, u, q2, q3⟩ := g6 i r j x hi hj
                rw [hplsz] at q2
                have hil := (List.getElem?_eq_some_iff.1 hi).1
                have hjl : j < sz := by rw [← hplsz, ← g4 r (List.mem_of_getElem? hi)]; exact (List.getElem?_eq_some_iff.1 hj).1
                refine ⟨q1, u, q2, ?_, more (some p') hne (hl2 k obj hob r (List.mem_of_getElem? hi) x (List.mem_of_getElem? hj)) q3⟩
                have : (i + 1) * sz ≤ n * sz := Nat.mul_le_mul_right _ (by omega)
                rw [Nat.add_mul, Nat.one_mul] at this; omega
              by_cases hfit : n + ys.length ≤ pl.cap
              · have hty : KT ≤ k → et + 1 = k / KT := fun h => hm.typed hK hob hρ h _ _ _ hh
                have hcs : pl.o + n * sz + news.length ≤ cs.size := by have := Nat.mul_le_mul_right sz hfit; rw [Nat.add_mul] at this; rw [hs.newsLen, g5, hplsz]; omega
                have hst := run_storeCells_at P pl.g (pl.o + n * sz) et news 0 cs w hh (by simpa using hcs) hs.one
                simp only [Nat.add_zero] at hst
                have hrun : (Builtin.append_ #[t, tx] o.type #[.slice (some ⟨pl.g, pl.o, none⟩) n pl.cap, a.eval y']).run P w = .ok (.slice (some ⟨pl.g, pl.o, none⟩) (n + ys.length) pl.cap) (w.setRow pl.g (cs.toList.take (pl.o + n * sz) ++ news ++ cs.toList.drop (pl.o + n * sz + news.length)).toArray) := by
                  subst hsz
                  rcases hs.kind with ⟨e', hk⟩ | hk <;> simp [Builtin.append_, run_underlying ht, run_underlying hk, sizeOf, typeInfo, hi, hs.len, hfit, hs.cells, Addr.add_mk, hst]
                refine does_value (append_run hop (by rw [hb]; exact hrun)) ⟨F, updM ρ k (some pl), ?_, hFr pl, ?_, .refl F, row_below g1, fun _ _ h => .inl h⟩
                · have hspl : ∀ q, (cs.toList.take (pl.o + n * sz) ++ news ++ cs.toList.drop (pl.o + n * sz + news.length))[q]? = if pl.o + n * sz ≤ q ∧ q < pl.o + n * sz + news.length then news[q - (pl.o + n * sz)]? else cs[q]? := by
                    intro q
                    have := splice_get (cs := cs.toList) (xs := news) (off := pl.o + n * sz) (j := q) (by simpa using hcs)
                    unfold splice at this
                    rw [this, ← Array.getElem?_toList]
                  refine Mem.change (et := et) hK hty (hm.typed0 hK hob hρ) hm g1 (.inl ⟨obj, pl, hob, hρ, rfl⟩) (by simp [World.setRow]) (fun k hk hne => setRow_other w _ k _ hne) (setRow_heap w _ cs _ et _ hh) ?_ (by simp; omega) hplsz ?_ (hT pl) ?_
                  · simp only [List.size_toArray, List.length_append, List.length_take, List.length_drop, Array.length_toList]
                    rw [← g5]; omega
                  · intro r hr
                    rcases List.mem_append.1 hr with hr | hr
                    · exact g4 r hr
                    · obtain ⟨r0, hr0, rfl⟩ := List.mem_map.1 hr
                      simp [toAV, hyl r0 hr0, hplsz]
                  · intro i r j x hi hj
                    simp only [List.getElem?_toArray, hplsz]
                    rw [hspl]
                    rcases Nat.lt_or_ge i obj.rows.length with hin | hin
                    · rw [List.getElem?_append_left hin] at hi
                      obtain ⟨q1, u, q2, q3, q4⟩ := hown pl i r j x hi hj
                      exact ⟨q1, u, by rw [if_neg (by omega)]; exact q2, q4⟩
                    · rw [List.getElem?_append_right hin, hver] at hi
                      obtain ⟨q1, u, q2, q3⟩ := rows_cell hnew (i - n) r j x hi hj
                      have he : i * sz = n * sz + (i - n) * sz := by rw [← Nat.add_mul]; congr 1; omega
                      have hql := (List.getElem?_eq_some_iff.1 q2).1
                      refine ⟨q1, u, ?_, q3⟩
                      rw [if_pos (by omega), show pl.o + i * sz + j - (pl.o + n * sz) = (i - n) * sz + j by omega]; exact q2
                · exact sl_ar hK (o' := ⟨sz, obj.rows ++ ys.map toAV⟩) (by simp; omega) obj_same (updM_same _ _) hfit
              · have hold : (Builtin.firstCells i.size n (.slice (some ⟨pl.g, pl.o, none⟩) n pl.cap)).run P w.drew = .ok ((cs.toList.drop pl.o).take (n * sz)).toArray w.drew := by
                  rw [hsz]
                  refine run_firstCells_some w.drew sz n ⟨pl.g, pl.o, none⟩ n pl.cap _ (by simp; omega) fun j v hj => ?_
                  rw [List.getElem?_take] at hj
                  split at hj
                  · rw [Addr.add_mk]
                    show w.cell? _ = _
                    simp only [World.cell?, hh]
                    simpa [List.getElem?_drop] using hj
                  · simp at hj
                have hrun := run_append_grow_src (P := P) w t tx o.type e i z ht hi hz (some ⟨pl.g, pl.o, none⟩) n pl.cap _ hold (a.eval y') ys.length news (by rw [hsz]; exact hs) (by omega) (by omega) (growslice_fits (by omega) (by rw [hby]; exact hroom))
                refine does_value (append_run hop (by rw [hb]; exact hrun)) ?_
                refine grow_post (e := e) (z := z) hK hty hm hpos (fun r hr => by rw [← hplsz]; exact g4 r hr) hver (by simp; omega) hs.newsLen rfl hyl hzs (grownCap_ge w _ _ _) (hT _) (hFr _) ?_ hnew
                intro i r j x hi hj
                obtain ⟨q1, u, q2, q3, q4⟩ := hown ⟨w.heap.size, sz, grownCap w (n + ys.length) pl.cap e, 0⟩ i r j x hi hj
                exact ⟨q1, u, by rw [List.getElem?_take, if_pos q3, List.getElem?_drop]; simpa [Nat.add_assoc] using q2, q4⟩
        · simp at h
      · simp at h
    · simp at h
  · simp at h
/-! ### Append to an own slice that begins behind the begin of its object -/
theorem does_appM {key sz bytes : Nat} {x y : Opd} {p q v : AV} {s' : St} {ys : List (List D)} (hK0 : key < MK) (hT : tyKey P o key = true) (hm : Mem B F ρ s.ob w) (hf : Fr F ρ s.ob s.fr a) (hc : chkApp P o sz bytes x y = true) (h1 : s.opd x = some p) (h2 : s.opd y = some q) (h3 : srcRows s q = some (sz, ys))
    (h : appendM s key sz bytes p ys = some (v, s')) : s'.fr = s.fr ∧ Does P o a w (Post B F w s.fr a s'.ob v) := by
  obtain ⟨x', y', t, tx, e, i, z, hop, hx, hy, hk, ht, hi, hz, hsz, hby, hzs, hpos, hpb⟩ := chkApp_spec hc
  have hr1 := opd_sound hf hx h1
  have hr2 := opd_sound hf hy h2
  have hty0 : KT ≤ key → e + 1 = key / KT := by simp only [tyKey, hop, ht] at hT; exact tyKey_or (o := o) hT rfl
  obtain ⟨news, hs, hyl, hnew⟩ := src_sound (tx := tx) hpos hm h3 hr2 hk
  unfold appendM at h
  split at h
  · rename_i z0
    split at h
    · rename_i hcond
      simp only [Bool.and_eq_true] at hcond
      obtain ⟨rfl, hroom, hfree⟩ := hcond
      simp only [Option.some.injEq, Prod.mk.injEq] at h
      obtain ⟨rfl, rfl⟩ := h
      have hb : a.eval x' = .slice none 0 0 := hr1
      refine ⟨rfl, append_bare hK0 hty0 hm hop ht hi hz hsz hzs hpos (by omega) hb hs hyl hnew (by rw [hby]; exact room_spec hroom) (fun _ => ⟨hm.newBare hfree, (free_ar hfree).2 hf⟩) fun _ p' => ?_⟩
      exact ⟨(free_ar (a := a) hfree).1, (free_ar hfree).2 hf⟩
    · simp at h
  · rename_i k ver st n
    split at h
    · rename_i obj hob
      split at h
      · rename_i hcond
        obtain ⟨hver, hstn, hn, hosz, hkne, hkt⟩ := hcond
        split at h
        · rename_i hcond2
          simp only [Bool.and_eq_true] at hcond2
          obtain ⟨hroom, hfree⟩ := hcond2
          simp only [Option.some.injEq, Prod.mk.injEq] at h
          obtain ⟨rfl, rfl⟩ := h
          refine ⟨rfl, ?_⟩
          obtain ⟨hK, hr1⟩ := hr1
          have hsl := (hr1 obj hob).2 hver (by omega)
          have hroom := room_spec hroom
          have hfree2 := free_del (k := k) hfree
          have hm2 : Mem B F ρ (⟨s.fr, del s.ob k⟩ : St).ob w := hm.fewer (del_sub s.ob k)
          have hf2 : Fr F ρ (⟨s.fr, del s.ob k⟩ : St).ob (⟨s.fr, del s.ob k⟩ : St).fr a := hf.sub (del_sub s.ob k)
          have hty : KT ≤ key → e + 1 = key / KT := fun h => by omega
          unfold SlR at hsl
          cases hρ : ρ k with
          | none => rw [hρ] at hsl; omega
          | some pl =>
            rw [hρ] at hsl
            obtain ⟨hcap, b, hb, ha⟩ := hsl
            obtain rfl := ha (.inl hn)
            obtain ⟨g1, g2, g3, g4, cs, et, hh, g5, g6⟩ := hm.cells hK hob hρ
            have hplsz : pl.sz = sz := by rw [g3, hosz]
            rw [hplsz] at hb g5 g6
            obtain ⟨b0, hb0⟩ : ∃ b0, pl.o + st * sz = b0 := ⟨_, rfl⟩
            obtain ⟨cp, hcp⟩ : ∃ cp, pl.cap - st = cp := ⟨_, rfl⟩
            rw [hb0, hcp] at hb
            have hcs0 : cs.size = b0 + cp * sz := by
              have : pl.cap * sz = st * sz + cp * sz := by rw [← Nat.add_mul]; congr 1; omega
              rw [g5, this, ← hb0]; omega
            have hncp : n ≤ cp := by omega
            have hrl : ∀ r ∈ obj.rows.drop st, r.length = sz := fun r hr => by rw [← hplsz]; exact g4 r (List.mem_of_mem_drop hr)
            have hdl : (obj.rows.drop st).length = n := by rw [List.length_drop]; omega
            have hf3 : ∀ p', Fr F (updM ρ key (some p')) ((⟨s.fr, del s.ob k⟩ : St).obj key ⟨sz, obj.rows.drop st ++ ys.map toAV⟩).ob s.fr a := fun p' => (free_ar hfree2).2 hf2
            have hT : ∀ p', ∀ k' o, k' ≠ key → get (⟨s.fr, del s.ob k⟩ : St).ob k' = some o → ∀ r ∈ o.rows, ∀ x ∈ r, ∀ v, AR F ρ (⟨s.fr, del s.ob k⟩ : St).ob x v → AR F (updM ρ key (some p')) ((⟨s.fr, del s.ob k⟩ : St).obj key ⟨sz, obj.rows.drop st ++ ys.map toAV⟩).ob x v := fun p' => (free_ar (a := a) hfree2).1
            have hown : ∀ p', ∀ (i : Nat) (r : List AV) (j : Nat) (x : AV), (obj.rows.drop st)[i]? = some r → r[j]? = some x → x.one = true ∧ ∃ u, cs[b0 + i * sz + j]? = some u ∧ i * sz + j < n * sz ∧ AR F (updM ρ key (some p')) ((⟨s.fr, del s.ob k⟩ : St).obj key ⟨sz, obj.rows.drop st ++ ys.map toAV⟩).ob x u := by
              intro p' i r j x hi hj
              rw [List.getElem?_drop] at hi
              obtain ⟨q1, u, q2, q3⟩ := g6 _ r j x hi hj
              have hil := (List.getElem?_eq_some_iff.1 hi).1
              have hjl : j < sz := by rw [← hplsz, ← g4 r (List.mem_of_getElem? hi)]; exact (List.getElem?_eq_some_iff.1 hj).1
              have hnm : x.names key = false := (free_spec hfree).2 k obj hkne hob r (List.mem_of_getElem? hi) x (List.mem_of_getElem? hj)
              refine ⟨q1, u, ?_, ?_, (q3.sub (del_sub s.ob k)).upd hnm (fun k hk => updM_other _ hk) (fun k hk => obj_other hk)⟩
              · rw [← hb0, ← q2]; congr 1; rw [Nat.add_mul]; omega
              · have : (i + 1) * sz ≤ n * sz := Nat.mul_le_mul_right _ (by omega)
                rw [Nat.add_mul, Nat.one_mul] at this; omega
            have hnsz : b0 + n * sz ≤ cs.size := by have := Nat.mul_le_mul_right sz hncp; rw [hcs0]; omega
            have hp1 : ∀ k2 o p, key ≠ k2 → get (⟨s.fr, del s.ob k⟩ : St).ob k2 = some o → ρ k2 = some p → p.g ≠ pl.g := by
              intro k2 o p _ ho hp he
              have := hm.inj k2 o p k obj pl (del_sub s.ob k k2 o ho) hp hob hρ he
              subst this
              simp [get_del] at ho
            by_cases hfit : n + ys.length ≤ cp
            · have hcs : b0 + n * sz + news.length ≤ cs.size := by have := Nat.mul_le_mul_right sz hfit; rw [Nat.add_mul] at this; rw [hs.newsLen, hcs0]; omega
              have hst := run_storeCells_at P pl.g (b0 + n * sz) et news 0 cs w hh (by simpa using hcs) hs.one
              simp only [Nat.add_zero] at hst
              have hrun : (Builtin.append_ #[t, tx] o.type #[.slice (some ⟨pl.g, b0, none⟩) n cp, a.eval y']).run P w = .ok (.slice (some ⟨pl.g, b0, none⟩) (n + ys.length) cp) (w.setRow pl.g (cs.toList.take (b0 + n * sz) ++ news ++ cs.toList.drop (b0 + n * sz + news.length)).toArray) := by
                subst hsz
                rcases hs.kind with ⟨e', hk⟩ | hk <;> simp [Builtin.append_, run_underlying ht, run_underlying hk, sizeOf, typeInfo, hi, hs.len, hfit, hs.cells, Addr.add_mk, hst]
              obtain ⟨pn, hpn⟩ : ∃ pn : Place, (⟨pl.g, sz, cp, b0⟩ : Place) = pn := ⟨_, rfl⟩
              have ep : pn.g = pl.g ∧ pn.sz = sz ∧ pn.cap = cp ∧ pn.o = b0 := by rw [← hpn]; exact ⟨rfl, rfl, rfl, rfl⟩
              obtain ⟨ep1, ep2, ep3, ep4⟩ := ep
              refine does_value (append_run hop (by rw [hb]; exact hrun)) ⟨F, updM ρ key (some pn), ?_, hf3 pn, ?_, .refl F, row_below g1, fun _ _ h => .inl h⟩
              · have hspl : ∀ q, (cs.toList.take (b0 + n * sz) ++ news ++ cs.toList.drop (b0 + n * sz + news.length))[q]? = if b0 + n * sz ≤ q ∧ q < b0 + n * sz + news.length then news[q - (b0 + n * sz)]? else cs[q]? := by
                  intro q
                  have := splice_get (cs := cs.toList) (xs := news) (off := b0 + n * sz) (j := q) (by simpa using hcs)
                  unfold splice at this
                  rw [this, ← Array.getElem?_toList]
                refine Mem.changeG hm2 (by rw [ep1]; exact g1) (fun k2 o p q1 q2 q3 => by rw [ep1]; exact hp1 k2 o p q1 q2 q3) (fun ad u hu => by rw [ep1]; exact hm.apart k obj pl hob hρ ad u hu) (by simp [World.setRow]) (fun k2 _ hne => setRow_other w _ k2 _ (by rw [← ep1]; exact hne)) (hT pn) ⟨fun _ => ⟨⟨?_, ep2, ?_, _, et, by rw [ep1]; exact setRow_heap w _ cs _ et _ hh, ?_, ?_⟩, fun h => by omega⟩, fun h => by omega, fun h => by omega⟩
                · rw [List.length_append, hdl, List.length_map, ep3]; exact hfit
                · intro r hr
                  rw [ep2]
                  rcases List.mem_append.1 hr with hr | hr
                  · exact hrl r hr
                  · obtain ⟨r0, hr0, rfl⟩ := List.mem_map.1 hr
                    simp [toAV, hyl r0 hr0]
                · rw [ep4, ep3, ep2, ← hcs0]
                  simp only [List.size_toArray, List.length_append, List.length_take, List.length_drop, Array.length_toList]
                  omega
                · intro i r j x hi hj
                  simp only [List.getElem?_toArray]
                  rw [hspl, ep4, ep2]
                  rcases Nat.lt_or_ge i n with hin | hin
                  · rw [List.getElem?_append_left (by omega)] at hi
                    obtain ⟨q1, u, q2, q3, q4⟩ := hown pn i r j x hi hj
                    exact ⟨q1, u, by rw [if_neg (by omega)]; exact q2, q4⟩
                  · rw [List.getElem?_append_right (by omega), hdl] at hi
                    obtain ⟨q1, u, q2, q3⟩ := rows_cell hnew (i - n) r j x hi hj
                    have he : i * sz = n * sz + (i - n) * sz := by rw [← Nat.add_mul]; congr 1; omega
                    have hql := (List.getElem?_eq_some_iff.1 q2).1
                    refine ⟨q1, u, ?_, q3⟩
                    rw [if_pos (by omega), show b0 + i * sz + j - (b0 + n * sz) = (i - n) * sz + j by omega]; exact q2
              · have := sl_ar (F := F) (ρ := updM ρ key (some pn)) (p := pn) (n := n + ys.length) hK0 (o' := ⟨sz, obj.rows.drop st ++ ys.map toAV⟩) (by rw [List.length_append, hdl, List.length_map]) (obj_same (s := ⟨s.fr, del s.ob k⟩)) (updM_same _ _) (by rw [ep3]; exact hfit)
                rw [ep1, ep3, ep4] at this
                exact this
            · have hold : (Builtin.firstCells i.size n (.slice (some ⟨pl.g, b0, none⟩) n cp)).run P w.drew = .ok ((cs.toList.drop b0).take (n * sz)).toArray w.drew := by
                rw [hsz]
                refine run_firstCells_some w.drew sz n ⟨pl.g, b0, none⟩ n cp _ (by simp; omega) fun j v hj => ?_
                rw [List.getElem?_take] at hj
                split at hj
                · rw [Addr.add_mk]
                  show w.cell? _ = _
                  simp only [World.cell?, hh]
                  simpa [List.getElem?_drop] using hj
                · simp at hj
              have hbl : n + ys.length ≤ (n + ys.length) * bytes := Nat.le_mul_of_pos_right _ hpb
              have hlp : 0 < ys.length := by omega
              have hrun := run_append_grow_src (P := P) w t tx o.type e i z ht hi hz (some ⟨pl.g, b0, none⟩) n cp _ hold (a.eval y') ys.length news (by rw [hsz]; exact hs) (by omega) (by omega) (growslice_fits (by omega) (by rw [hby]; exact hroom))
              refine does_value (append_run hop (by rw [hb]; exact hrun)) ?_
              refine grow_post (s := ⟨s.fr, del s.ob k⟩) (e := e) (z := z) hK0 hty hm2 hpos hrl hdl (by simp; omega) hs.newsLen rfl hyl hzs (grownCap_ge w _ _ _) (hT _) (hf3 _) ?_ hnew
              intro i r j x hi hj
              obtain ⟨q1, u, q2, q3, q4⟩ := hown ⟨w.heap.size, sz, grownCap w (n + ys.length) cp e, 0⟩ i r j x hi hj
              exact ⟨q1, u, by rw [List.getElem?_take, if_pos q3, List.getElem?_drop]; simpa [Nat.add_assoc] using q2, q4⟩
        · simp at h
      · simp at h
    · simp at h
  · simp at h
end
end Go.Am
