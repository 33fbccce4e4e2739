/- Shifts, '!=' on bools, an array's element by value: more step laws. No statement of the seat is proved in this text. -/
import Derived.Test.YtfiakplgifimkaaDoorTsSl
import Derived.Laws.Shifts
import Derived.Laws.Entries
namespace Go.TS
section
variable {P : Program} {w : World} {K : Value → World → Prop} {t : TypeId} {ox oy : Operand}
theorem bn_shr {x y : Int} {yk : IntKind} (h0 : 0 ≤ y) (h1 : y ≤ 64) : bn P .shr t ox oy (.int .i64 x) (.int yk y) w K = K (.int .i64 (x / 2 ^ y.toNat)) w := by
  refine bn_of rfl ?_
  rw [binOp_shr, shift_shr_i64 (h₀ := h0) (h₁ := h1)]
  rfl
theorem bn_bool_neq {x y : Bool} (h : P.underlying t = some .bool) : bn P .neq t ox oy (.bool x) (.bool y) w K = K (.bool (!(x == y))) w := bn_of rfl (run_neq_bool w t x y h)
theorem ix_one {l e i : Nat} {k : IntKind} {cs : Array Value} {v : Value} (h : P.underlying t = some (.array l e)) (ha : aggB P e = some false) (hs : szB P e = some 1) (h1 : i < l) (hc : cs[i]? = some v) : ix P t (.agg cs) (.int k i) w K = K v w := by
  unfold ix
  apply sem_ok
  unfold Instr.index
  simp only [asIntOf, pure_bind]
  rw [Sem.run_bind, run_und h]
  simp only [Result.andThen]
  rw [if_pos ⟨by omega, by omega⟩]
  rw [Sem.run_bind, run_sz hs]
  simp only [Result.andThen, Int.toNat_natCast, Nat.mul_one]
  unfold part
  rw [Sem.run_bind, run_agg ha]
  simp only [Result.andThen, Bool.false_eq_true, if_false, hc]
  rfl
theorem ix_agg {l e i n : Nat} {k : IntKind} {cs : Array Value} (h : P.underlying t = some (.array l e)) (ha : aggB P e = some true) (hs : szB P e = some n) (h1 : i < l) : ix P t (.agg cs) (.int k i) w K = K (.agg (cs.extract (i * n) (i * n + n))) w := by
  unfold ix
  apply sem_ok
  unfold Instr.index
  simp only [asIntOf, pure_bind]
  rw [Sem.run_bind, run_und h]
  simp only [Result.andThen]
  rw [if_pos ⟨by omega, by omega⟩]
  rw [Sem.run_bind, run_sz hs]
  simp only [Result.andThen, Int.toNat_natCast]
  unfold part
  rw [Sem.run_bind, run_agg ha]
  simp only [Result.andThen, if_true]
  rw [Sem.run_bind, run_sz hs]
  rfl
end
end Go.TS
