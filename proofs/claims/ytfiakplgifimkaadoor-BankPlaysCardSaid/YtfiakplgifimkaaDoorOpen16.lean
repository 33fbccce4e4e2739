/- A script of calls on banks out of what is handed in. No statement of the seat is proved in this text. -/
import Derived.Test.YtfiakplgifimkaaDoorScript16
import Derived.Test.YtfiakplgifimkaaDoorOpen
namespace Go.Proofs.YtfiakplgifimkaaDoor
open Go.TS
set_option maxRecDepth 100000
theorem op16_of {w : World} {es : List Value} (h : Rdd Tryd.prog w 72 es) : ∃ (x : Op16) (vh vb : Value), es = [.int .i64 x.kind, .int .i64 x.which, .int .i64 x.drive, .int .i64 x.slot, .int .i64 x.n, vh, vb] ∧ By w vh x.head (old_ w) ∧ By w vb x.body (old_ w) := by
  obtain ⟨hl, hf⟩ := h.struct (fs := #[⟨ "Kind", 3, 0, false, "", "", 0⟩, ⟨ "Which", 3, 1, false, "", "", 8⟩, ⟨ "Drive", 3, 2, false, "", "", 16⟩, ⟨ "Slot", 3, 3, false, "", "", 24⟩, ⟨ "N", 3, 4, false, "", "", 32⟩, ⟨ "Block", 33, 5, false, "", "", 40⟩]) (by kernel_rfl)
  rw [(show Tryd.prog.cellsOf 72 = 7 from by kernel_rfl)] at hl
  match es, hl with
  | [a, b, c, d, e, f, g], _ =>
    have h0 := hf 0 ⟨ "Kind", 3, 0, false, "", "", 0⟩ rfl
    have h1 := hf 1 ⟨ "Which", 3, 1, false, "", "", 8⟩ rfl
    have h2 := hf 2 ⟨ "Drive", 3, 2, false, "", "", 16⟩ rfl
    have h3 := hf 3 ⟨ "Slot", 3, 3, false, "", "", 24⟩ rfl
    have h4 := hf 4 ⟨ "N", 3, 4, false, "", "", 32⟩ rfl
    have h5 := hf 5 ⟨ "Block", 33, 5, false, "", "", 40⟩ rfl
    dsimp only at h0 h1 h2 h3 h4 h5
    rw [(show Tryd.prog.cellsOf 3 = 1 from by kernel_rfl)] at h0 h1 h2 h3 h4
    rw [(show Tryd.prog.cellsOf 33 = 2 from by kernel_rfl)] at h5
    obtain ⟨x0, e0, _⟩ := h0.int (k := .i64) (by kernel_rfl)
    obtain ⟨x1, e1, _⟩ := h1.int (k := .i64) (by kernel_rfl)
    obtain ⟨x2, e2, _⟩ := h2.int (k := .i64) (by kernel_rfl)
    obtain ⟨x3, e3, _⟩ := h3.int (k := .i64) (by kernel_rfl)
    obtain ⟨x4, e4, _⟩ := h4.int (k := .i64) (by kernel_rfl)
    obtain ⟨vh, vb, hs, bs, e5, hh, hb⟩ := block_of h5
    simp at e0 e1 e2 e3 e4 e5
    obtain ⟨e5, e6⟩ := e5
    subst e0 e1 e2 e3 e4 e5 e6
    exact ⟨⟨x0, x1, x2, x3, x4, hs, bs⟩, _, _, rfl, hh, hb⟩
theorem ops16_of {w : World} {es : List Value} (h : Rdd Tryd.prog w 69 es) : ∃ v ops, es = [v] ∧ Ops16 w v ops (old_ w) := by
  obtain ⟨a, n, c, rfl, hnc, hb, hr⟩ := h.slice (e := 72) (by kernel_rfl) (by rw [(show Tryd.prog.cellsOf 72 = 7 from by kernel_rfl)]; omega)
  rw [(show Tryd.prog.bytesOf 72 = 88 from by kernel_rfl)] at hb
  have hmax : n ≤ 17592186044416 := by unfold reachBytes at hb; omega
  rcases hr with ⟨rfl, _⟩ | ⟨b, o, csb, e', fr, rfl, hblk, hel⟩
  · exact ⟨_, [], rfl, a, c, rfl, hmax, .inl rfl⟩
  · rw [(show Tryd.prog.cellsOf 72 = 7 from by kernel_rfl)] at hel
    obtain ⟨ops, hl, hp⟩ := list_of (α := Op16) (p := fun i x => ∃ vh vb, csb[o + i * 7]? = some (.int .i64 x.kind) ∧ csb[o + i * 7 + 1]? = some (.int .i64 x.which) ∧ csb[o + i * 7 + 2]? = some (.int .i64 x.drive) ∧ csb[o + i * 7 + 3]? = some (.int .i64 x.slot) ∧
      csb[o + i * 7 + 4]? = some (.int .i64 x.n) ∧ csb[o + i * 7 + 5]? = some vh ∧ csb[o + i * 7 + 6]? = some vb ∧ By w vh x.head (old_ w) ∧ By w vb x.body (old_ w)) (n := n) (fun i hi => by
      obtain ⟨es, hl, hc, hrd⟩ := hel i hi
      obtain ⟨x, vh, vb, rfl, hh, hb⟩ := op16_of hrd
      exact ⟨x, vh, vb, hc 0 (by omega), hc 1 (by omega), hc 2 (by omega), hc 3 (by omega), hc 4 (by omega), hc 5 (by omega), hc 6 (by omega), hh, hb⟩)
    subst hl
    exact ⟨_, ops, rfl, some ⟨b, o, none⟩, c, rfl, hmax, .inr ⟨b, o, csb, e', fr, rfl, blk_lt hblk, hblk, fun i hi => hp i hi⟩⟩
end Go.Proofs.YtfiakplgifimkaaDoor
