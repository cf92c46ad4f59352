/- Rkback: contracts (Be). -/
import Derived.Test.YthikijlbclckdaaGreatP2
import Derived.Test.YthikijlbclckdaaGreatP3
import Derived.Test.YthikijlbclckdaaGreatP1
namespace Go.Proofs.YthikijlbclckdaaGreat
set_option maxRecDepth 100000
set_option maxHeartbeats 40000000
set_option linter.unusedSimpArgs false
set_option linter.unusedVariables false
open Go.RowKit
theorem tot_bulk (s : StateV) {n : Nat} (h : rdState.bulk s ≤ n) : tot s ≤ n := by
 have hb : rdU.bulk s.pos + (rdU.bulk s.done + (rdU.bulk s.made + (((s.procs.map rdDep.bulk).sum + 1) + (((s.insts.map rdInst.bulk).sum + 1) + (((s.tokens.map rdTok.bulk).sum + 1) + (((s.jobs.map rdJob.bulk).sum + 1) + (((s.timers.map rdTim.bulk).sum + 1) + (((s.subs.map rdSub.bulk).sum + 1) + (((s.kept.map rdKept.bulk).sum + 1) + (((s.listed.map rdLis.bulk).sum + 1) + (((s.msgs.map rdMsg.bulk).sum + 1) + (0)))))))))))) + 1 ≤ n := h
 have n3 := len_sum rdDep.bulk (fun _ => Nat.le_add_left _ _) s.procs
 have n4 := len_sum rdInst.bulk (fun _ => Nat.le_add_left _ _) s.insts
 have n5 := len_sum rdTok.bulk (fun _ => Nat.le_add_left _ _) s.tokens
 have n6 := len_sum rdJob.bulk (fun _ => Nat.le_add_left _ _) s.jobs
 have n7 := len_sum rdTim.bulk (fun _ => Nat.le_add_left _ _) s.timers
 have n8 := len_sum rdSub.bulk (fun _ => Nat.le_add_left _ _) s.subs
 have n9 := len_sum rdKept.bulk (fun _ => Nat.le_add_left _ _) s.kept
 have n10 := len_sum rdLis.bulk (fun _ => Nat.le_add_left _ _) s.listed
 have n11 := len_sum rdMsg.bulk (fun _ => Nat.le_add_left _ _) s.msgs
 unfold tot
 omega
theorem keepBack_law (s : StateV) (c : Array Value) (d : Int) (w : World) {S : Nat → Prop} (h : rdState.R S w (Value.agg c).cells.toList s) (hb : rdState.bulk s ≤ 2097000) (hd : I64 d) :
  Calls Tryz.prog 6 #[.agg c, .int .i64 d] w fun e w' => e = .returned (.bool true) ∧ Below w.heap.size w w' := by
 obtain ⟨⟨vp, vi, vt, vj, vr, vs, vk, vl, vm, hst⟩, hok⟩ := rdState_at h (by omega)
 have := tot_bulk s hb
 exact keepBack_any s hok (by omega) d hd c.toList vp vi vt vj vr vs vk vl vm w hst
end Go.Proofs.YthikijlbclckdaaGreat
