/- A function with loops over maps, handed data, whose answer is data. -/
import Derived.Test.YtkjlejpaajcahaaAw
set_option linter.unusedVariables false
set_option linter.unusedSimpArgs false
set_option maxHeartbeats 1000000
namespace Go.Am
open Go.RowKit
section
variable {P : Program}
def chkFnWD (P : Program) (nm : Nat → Option Nat) (f : FuncId) (F : AFnW) (n : Nat) : Bool :=
  chkFnW P nm f F && (match P.funcs[f]? with | some fn => decide (n ≤ fn.ntmps) | none => false)
def EndD (F : AFnW) (rs : List AV) (ax : AX) (s' : St) : Prop :=
  (ax = .norm ∨ ax = .ret) ∧ ∃ qs, s'.slots F.results = some qs ∧ (s'.frzs qs).map (·.1) = some rs
theorem runWD_sound {nm : Nat → Option Nat} {Γ : Env} {f : FuncId} {fn : AFnW} {M n : Nat} (hΓ : EnvOk P nm Γ) (hmix : P.follows .mixedOrders = true) (hc : chkFnWD P nm f fn n = true) (S : List AV → Option (List AV))
    (hS : ∀ ds rs, S ds = some rs → ds.length = n ∧ execW Γ M fn.body ⟨args 0 ds, []⟩ (EndD fn rs)) : Spec P f S := by
  intro F0 w0 ds vs rs hok hall h
  obtain ⟨hlen, hex⟩ := hS ds rs h
  unfold chkFnWD at hc
  rw [Bool.and_eq_true] at hc
  obtain ⟨hc, hn⟩ := hc
  unfold chkFnW at hc
  split at hc
  case h_2 => simp at hc
  rename_i fn' hfn
  rw [hfn] at hn
  simp only [Bool.and_eq_true, decide_eq_true_eq] at hc hn
  obtain ⟨⟨hbody, hres⟩, hG⟩ := hc
  split at hbody
  case h_2 => simp at hbody
  rename_i c hcode
  have hvl : vs.length = n := by rw [← hall.length, hlen]
  have hrel : Rel #[] w0.heap.size F0 w0 fn'.ntmps ⟨args 0 ds, []⟩ (startA fn' vs) w0 := by
    refine ⟨hG, F0, fun _ => none, ⟨hok, Nat.le_refl _, ?_, ?_, ?_, ?_⟩, ?_, .refl _ _ _, ?_, rfl⟩
    · intro k o h; simp [get] at h
    · intro k o p h; simp [get] at h
    · intro k o p h; simp [get] at h
    · intro k o p k' o' p' h; simp [get] at h
    · intro i v hi
      obtain ⟨_, hv⟩ := get_args ds 0 i v hi
      obtain ⟨u, hu, hr⟩ := hall.get? i v (by simpa using hv)
      have hil : i < vs.length := (List.getElem?_eq_some_iff.1 hu).1
      rw [valG, if_pos (by omega), startA_getD hu]
      exact AR.of_RR hr
    · unfold startA; simp; omega
  refine calls_of_wp hfn hcode ?_
  refine execW_sound hΓ hmix fn.body c _ _ _ w0 _ hbody hex hrel ?_
  rintro ax s' a' w' ⟨hax, qs, hqs, hfz⟩ hr
  rw [Option.map_eq_some_iff] at hfz
  obtain ⟨⟨rs', ks⟩, hfrz, rfl⟩ := hfz
  obtain ⟨_, F, ρ, hm, hf, he, hN, hdf⟩ := hr
  obtain ⟨us, hus, har⟩ := slots_run (fn := fn') hm hf hres hqs
  have hmap : (fn'.results.mapM fun | .tmp n => pure (a'.tmps.getD n undef) | .cell n ty => do loadVar ty (← asAddr (a'.tmps.getD n undef)) : Sem (Array Value)).run P w' = .ok us.toArray w' := by
    rw [Array.mapM_eq_mapM_toList, Sem.run_map]
    exact congrArg (fun r => Result.andThen r fun (a : List Value) w' => Result.ok a.toArray w') hus
  have h2 : (results fn' a'.tmps).run P w' = ((fn'.results.mapM fun | .tmp n => pure (a'.tmps.getD n undef) | .cell n ty => do loadVar ty (← asAddr (a'.tmps.getD n undef)) : Sem (Array Value)).run P w').andThen
      fun vs w => .ok (if h : vs.size = 1 then vs[0] else .tuple vs) w := by
    unfold results; rw [Sem.run_bind]; rfl
  have hrr := frzs_sound hm hfrz har
  have hret : RetR (FrzF F ρ s'.ob ks w') rs' (tupV us) := by
    clear har
    match rs', us, hrr with
    | [], [], _ => exact ⟨[], by simp [tupV], .nil⟩
    | [r], [u], .cons h1 .nil => simpa [RetR, tupV] using h1
    | r1 :: r2 :: rs, u1 :: u2 :: us, h => exact ⟨u1 :: u2 :: us, by simp [tupV], h⟩
  have fin : bodyPost P fn' (fun e w' => ∃ u, e = .returned u ∧ ∃ F' : Facts, F'.ok w' ∧ F0.le F' ∧ Below w0.heap.size w0 w' ∧ (∀ a v, F' a v → F0 a v ∨ w0.heap.size ≤ a.block) ∧ RetR F' rs' u) .ret a' w' := by
    refine ⟨hdf, tupV us, ?_, _, rfl, FrzF F ρ s'.ob ks w', FrzF.ok hm.facts, he.le.trans FrzF.le, he.below, fun ad v hv => ?_, hret⟩
    · rw [h2, hmap]; rfl
    rcases FrzF.new hm hv with h1 | h1
    · exact he.new ad v h1
    · exact .inr h1
  rcases hax with rfl | rfl
  · simpa [exitOf, bodyPost] using fin
  · simpa [exitOf] using fin
end
end Go.Am
