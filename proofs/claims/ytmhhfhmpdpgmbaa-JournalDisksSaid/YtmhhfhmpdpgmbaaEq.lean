/- '==' of two sectors. -/
import Derived.Test.YtmhhfhmpdpgmbaaClone
import Derived.Stop.BytesEq
namespace Go.Proofs.Ytmhhfhmpdpgmbaa
open Go.RowKit
theorem size1w (w : World) : (sizeOf 5).run Try.prog w = .ok 1 w := by
  have hs := size1
  cases hq : Try.prog.info? 5 with
  | none => simp [hq] at hs
  | some i => simp [hq] at hs; simp [sizeOf, typeInfo, hq, hs]
theorem run_eql_secs (w : World) (a b : Sec) (ha : a.length = 32) (hb : b.length = 32) :
    (binOp .eql 53 (.agg (sv a).toArray) (.agg (sv b).toArray)).run Try.prog w = .ok (.bool (a == b)) w :=
  run_eql_bytes w 53 5 32 Try.underlying53 Try.underlying5 size1w a b ha hb
/-- As the walk meets it. -/
theorem equalIn_secs (w : World) (a b : Sec) (ha : a.length = 32) (hb : b.length = 32) :
    (Op.equalIn 10000 53 (.agg (sv a).toArray) (.agg (sv b).toArray)).run Try.prog w = .ok (a == b) w :=
  run_equalIn_bytes w 9998 53 5 32 Try.underlying53 Try.underlying5 size1w a b ha hb
theorem equalIn_same (w : World) (a : Sec) (ha : a.length = 32) : (Op.equalIn 10000 53 (.agg (sv a).toArray) (.agg (sv a).toArray)).run Try.prog w = .ok true w := by
  rw [equalIn_secs w a a ha ha, beq_self_eq_true]
end Go.Proofs.Ytmhhfhmpdpgmbaa
