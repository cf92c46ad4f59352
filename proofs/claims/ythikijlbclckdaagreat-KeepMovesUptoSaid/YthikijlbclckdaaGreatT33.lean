/- Keep: contracts (Be Ct). -/
import Derived.Test.YthikijlbclckdaaGreatT29
import Derived.Test.YthikijlbclckdaaGreatT30
import Derived.Test.YthikijlbclckdaaGreatT32
namespace Go.Proofs.YthikijlbclckdaaGreat
set_option maxRecDepth 100000
set_option maxHeartbeats 40000000
set_option linter.unusedSimpArgs false
set_option linter.unusedVariables false
open Go.RowKit
theorem tot_bulk (s : StateV) {n : Nat} (h : rdState.bulk s ≤ n) : tot s ≤ n := by
 have hb : rdU.bulk s.pos + (rdU.bulk s.done + (rdU.bulk s.made + (((s.procs.map rdDep.bulk).sum + 1) + (((s.insts.map rdInst.bulk).sum + 1) + (((s.tokens.map rdTok.bulk).sum + 1) + (((s.jobs.map rdJob.bulk).sum + 1) + (((s.timers.map rdTim.bulk).sum + 1) + (((s.subs.map rdSub.bulk).sum + 1) + (((s.kept.map rdKept.bulk).sum + 1) + (((s.listed.map rdLis.bulk).sum + 1) + (((s.msgs.map rdMsg.bulk).sum + 1) + (0)))))))))))) + 1 ≤ n := h
 have n3 := len_sum rdDep.bulk (fun _ => Nat.le_add_left _ _) s.procs
 have n4 := len_sum rdInst.bulk (fun _ => Nat.le_add_left _ _) s.insts
 have n5 := len_sum rdTok.bulk (fun _ => Nat.le_add_left _ _) s.tokens
 have n6 := len_sum rdJob.bulk (fun _ => Nat.le_add_left _ _) s.jobs
 have n7 := len_sum rdTim.bulk (fun _ => Nat.le_add_left _ _) s.timers
 have n8 := len_sum rdSub.bulk (fun _ => Nat.le_add_left _ _) s.subs
 have n9 := len_sum rdKept.bulk (fun _ => Nat.le_add_left _ _) s.kept
 have n10 := len_sum rdLis.bulk (fun _ => Nat.le_add_left _ _) s.listed
 have n11 := len_sum rdMsg.bulk (fun _ => Nat.le_add_left _ _) s.msgs
 unfold tot
 omega
end Go.Proofs.YthikijlbclckdaaGreat
namespace Go.Proofs.YthikijlbclckdaaGreat
set_option maxRecDepth 100000
set_option maxHeartbeats 40000000
set_option linter.unusedSimpArgs false
set_option linter.unusedVariables false
open Go.RowKit
theorem keepMoves_law (s t : StateV) (c d : Array Value) (w : World) {S S' : Nat → Prop} (h : rdState.R S w (Value.agg c).cells.toList s) (hb : rdState.bulk s ≤ 2097000) (h2 : rdState.R S' w (Value.agg d).cells.toList t) (hb2 : rdState.bulk t ≤ 2097000) :
  Calls Tryz.prog 8 #[.agg c, .agg d] w fun e w' => e = .returned (.bool true) ∧ Below w.heap.size w w' := by
 obtain ⟨⟨vp, vi, vt, vj, vr, vs, vk, vl, vm, hst⟩, hok⟩ := rdState_at h (by omega)
 obtain ⟨⟨up, ui, ut, uj, ur, us, uk, ul, um, hst2⟩, hok2⟩ := rdState_at h2 (by omega)
 have h3 := tot_bulk t hb2
 have h4 := rows_tot t
 exact keepMoves_any s t hok hok2 (by omega) c.toList d.toList vp vi vt vj vr vs vk vl vm up ui ut uj ur us uk ul um w hst hst2
end Go.Proofs.YthikijlbclckdaaGreat
