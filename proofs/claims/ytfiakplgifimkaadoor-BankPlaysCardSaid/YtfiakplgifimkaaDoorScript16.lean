/- A script of calls on banks, as it is read of memory. No statement of the seat is proved in this text. -/
import Derived.Test.YtfiakplgifimkaaDoorDisk3
namespace Go.Proofs.YtfiakplgifimkaaDoor
open Go.TS
set_option maxRecDepth 20000

/-- One call of a script. -/
structure Op16 where
  kind : Int
  which : Int
  drive : Int
  slot : Int
  n : Int
  head : List UInt8
  body : List UInt8
/-- A script that can be read at v. -/
def Ops16 (w : World) (v : Value) (ops : List Op16) (F : Nat → Prop) : Prop :=
  ∃ a c, v = .slice a ops.length c ∧ ops.length ≤ 17592186044416 ∧ (ops = [] ∨ ∃ b o cs e fr, a = some ⟨b, o, none⟩ ∧ F b ∧ w.heap[b]? = some (.cells cs e fr) ∧
    ∀ i (h : i < ops.length), ∃ vh vb, cs[o + i * 7]? = some (.int .i64 ops[i].kind) ∧ cs[o + i * 7 + 1]? = some (.int .i64 ops[i].which) ∧ cs[o + i * 7 + 2]? = some (.int .i64 ops[i].drive) ∧ cs[o + i * 7 + 3]? = some (.int .i64 ops[i].slot) ∧
      cs[o + i * 7 + 4]? = some (.int .i64 ops[i].n) ∧ cs[o + i * 7 + 5]? = some vh ∧ cs[o + i * 7 + 6]? = some vb ∧ By w vh ops[i].head F ∧ By w vb ops[i].body F)
theorem Ops16.kp {w w' : World} {v : Value} {ops : List Op16} {F S : Nat → Prop} (h : Ops16 w v ops F) (hk : Kp S w w') (hd : ∀ b, F b → ¬ S b) : Ops16 w' v ops F := by
  obtain ⟨a, c, h1, h2, h3⟩ := h
  refine ⟨a, c, h1, h2, h3.imp id fun ⟨b, o, cs, e, fr, h4, h5, h6, h7⟩ => ⟨b, o, cs, e, fr, h4, h5, hk.blk h6 (hd b h5), fun i hi => ?_⟩⟩
  obtain ⟨vh, vb, g1, g2, g3, g4, g5, g6, g7, g8, g9⟩ := h7 i hi
  exact ⟨vh, vb, g1, g2, g3, g4, g5, g6, g7, g8.kp hk hd, g9.kp hk hd⟩
theorem Ops16.kn {w w' : World} {v : Value} {ops : List Op16} {F : Nat → Prop} (h : Ops16 w v ops F) (hk : Kp none_ w w') : Ops16 w' v ops F := h.kp hk fun _ _ h => h
theorem Ops16.at_ {w : World} {v : Value} {ops : List Op16} {F : Nat → Prop} (h : Ops16 w v ops F) {i : Nat} (hi : i < ops.length) : ∃ b o c cs e fr vh vb, v = .slice (some ⟨b, o, none⟩) ops.length c ∧ b < w.heap.size ∧ w.heap[b]? = some (.cells cs e fr) ∧
    cs[o + i * 7]? = some (.int .i64 ops[i].kind) ∧ cs[o + i * 7 + 1]? = some (.int .i64 ops[i].which) ∧ cs[o + i * 7 + 2]? = some (.int .i64 ops[i].drive) ∧ cs[o + i * 7 + 3]? = some (.int .i64 ops[i].slot) ∧
      cs[o + i * 7 + 4]? = some (.int .i64 ops[i].n) ∧ cs[o + i * 7 + 5]? = some vh ∧ cs[o + i * 7 + 6]? = some vb ∧ By w vh ops[i].head F ∧ By w vb ops[i].body F := by
  obtain ⟨a, c, h1, h2, h3⟩ := h
  rcases h3 with rfl | ⟨b, o, cs, e, fr, rfl, h5, h6, h7⟩
  · simp at hi
  · obtain ⟨vh, vb, g⟩ := h7 i hi
    exact ⟨b, o, c, cs, e, fr, vh, vb, h1, blk_lt h6, h6, g⟩
theorem Ops16.len {w : World} {v : Value} {ops : List Op16} {F : Nat → Prop} (h : Ops16 w v ops F) : ∃ a c, v = .slice a ops.length c ∧ ops.length ≤ 17592186044416 := by
  obtain ⟨a, c, h1, h2, _⟩ := h
  exact ⟨a, c, h1, h2⟩
end Go.Proofs.YtfiakplgifimkaaDoor
