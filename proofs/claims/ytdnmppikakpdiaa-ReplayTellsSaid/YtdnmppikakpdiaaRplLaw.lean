/- Law 51: ReplayTells, over the functions together. -/
import Derived.Test.YtdnmppikakpdiaaRpaCode
import Derived.Test.YtdnmppikakpdiaaSix
set_option linter.unusedVariables false
set_option linter.unusedSimpArgs false
set_option maxRecDepth 10000
set_option maxHeartbeats 1000000
namespace Go.Am
open Si
abbrev rplT : Tab := [(0, law51_ReplayTells_f, 3), (8, law51_few_f, 1), (113, ref25_At_f, 2), (107, replay_Riders_f, 3), (108, law51_riders_f, 3), (110, replay_Waiting_f, 2), (111, replay_Done_f, 2), (167, track_find_f, 2), (150, track_At_f, 2), (112, replay_Where_f, 2), (109, slices_Equal_Sint_int_f, 2), (5, law51_alive_f, 0), (7, replay_Story_f, 2), (50, digits_Of_f, 1), (51, trip_At_f, 1), (72, digits_Text_f, 1), (80, digits_plain_f, 1), (81, nums_Size_f, 1)]
abbrev rplTV : List (Nat × Nat) := []
theorem rplT_alive : env rplT rplTV rpX 100100 (30) 5 [] = some [bo true] := yesU_eq (by decide +kernel)
theorem replayTells_law (l : Log) (car tick : Int) (hl : l.Ok) : env rplT rplTV rpX 100100 (31) 0 [.agg l.cells, i64 car, i64 tick] = some [bo true] := by
  have c8_FewC (n : Nat) : FewC (env rplT rplTV rpX 100100 (n + 1) 8) := by
    have h : FewC (run (env rplT rplTV rpX 100100 (n + 0)) 100100 law51_few_f) := few_run (by omega)
    unfold FewC at h ⊢; intros; rw [env_run rfl rfl]; apply h <;> assumption
  have c113_At25C (n : Nat) : At25C (env rplT rplTV rpX 100100 (n + 1) 113) := by
    have h : At25C (run (env rplT rplTV rpX 100100 (n + 0)) 100100 ref25_At_f) := ref25_At_run _ _ (by omega)
    unfold At25C at h ⊢; intros; rw [env_run rfl rfl]; apply h <;> assumption
  have c107_RidC (n : Nat) : RidC (env rplT rplTV rpX 100100 (n + 1) 107) := by
    have h : RidC (run (env rplT rplTV rpX 100100 (n + 0)) 100100 replay_Riders_f) := replay_Riders_run _ _ (by omega) (load_rp rfl) (sort_rp rfl)
    unfold RidC at h ⊢; intros; rw [env_run rfl rfl]; apply h <;> assumption
  have c108_LRidC (n : Nat) : LRidC (env rplT rplTV rpX 100100 (n + 1) 108) := by
    have h : LRidC (run (env rplT rplTV rpX 100100 (n + 0)) 100100 law51_riders_f) := law51_riders_run _ _ (by omega)
    unfold LRidC at h ⊢; intros; rw [env_run rfl rfl]; apply h <;> assumption
  have c110_IdsCwait1 (n : Nat) : IdsC wait1 (env rplT rplTV rpX 100100 (n + 1) 110) := by
    have h : IdsC wait1 (run (env rplT rplTV rpX 100100 (n + 0)) 100100 replay_Waiting_f) := replay_Waiting_run _ _ (by omega)
    unfold IdsC at h ⊢; intros; rw [env_run rfl rfl]; apply h <;> assumption
  have c111_IdsCdone1 (n : Nat) : IdsC done1 (env rplT rplTV rpX 100100 (n + 1) 111) := by
    have h : IdsC done1 (run (env rplT rplTV rpX 100100 (n + 0)) 100100 replay_Done_f) := replay_Done_run _ _ (by omega)
    unfold IdsC at h ⊢; intros; rw [env_run rfl rfl]; apply h <;> assumption
  have c167_FindC (n : Nat) : FindC (env rplT rplTV rpX 100100 (n + 1) 167) := by
    have h : FindC (run (env rplT rplTV rpX 100100 (n + 0)) 100100 track_find_f) := track_find_run _ _ (by omega)
    unfold FindC at h ⊢; intros; rw [env_run rfl rfl]; apply h <;> assumption
  have c150_TkC (n : Nat) : TkC (env rplT rplTV rpX 100100 (n + 2) 150) := by
    have h : TkC (run (env rplT rplTV rpX 100100 (n + 1)) 100100 track_At_f) := track_At_run _ _ (c167_FindC (n + 0))
    unfold TkC at h ⊢; intros; rw [env_run rfl rfl]; apply h <;> assumption
  have c112_WhrC (n : Nat) : WhrC (env rplT rplTV rpX 100100 (n + 3) 112) := by
    have h : WhrC (run (env rplT rplTV rpX 100100 (n + 2)) 100100 replay_Where_f) := replay_Where_run _ _ (by omega) (c150_TkC (n + 0))
    unfold WhrC at h ⊢; intros; rw [env_run rfl rfl]; apply h <;> assumption
  have c109_EqN (n : Nat) : EqN (env rplT rplTV rpX 100100 (n + 1) 109) := by
    have h : EqN (run (env rplT rplTV rpX 100100 (n + 0)) 100100 slices_Equal_Sint_int_f) := slices_Equal_N_run _ _ (by omega)
    unfold EqN at h ⊢; intros; rw [env_run rfl rfl]; apply h <;> assumption
  rw [env_run rfl rfl]
  exact ReplayTells_run _ _ (by omega) ⟨(c8_FewC 29), (c113_At25C 29), (c107_RidC 29), (c108_LRidC 29), (c110_IdsCwait1 29), (c111_IdsCdone1 29), (c112_WhrC 27), (c109_EqN 29), rplT_alive⟩ l car tick hl
end Go.Am
