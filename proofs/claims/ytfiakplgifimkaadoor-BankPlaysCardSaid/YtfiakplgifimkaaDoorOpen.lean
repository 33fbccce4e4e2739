/- The arguments of this seat's laws as they are read of memory; the errors. No statement of the seat is proved in this text. -/
import Derived.Test.YtfiakplgifimkaaDoorScript
import Derived.Test.YtfiakplgifimkaaDoorTsOpen
namespace Go.Proofs.YtfiakplgifimkaaDoor
open Go.TS
set_option maxRecDepth 100000

theorem own_ : ownKnob Tryd.prog.godebug = none := by kernel_rfl
theorem laidOut_ : laidOutB Tryd.prog = true := by kernel_rfl
theorem row113 (u : TypeId) (h : Tryd.prog.typeName? 3 u = some "*errors.errorString") : u = 113 :=
  typeName_ptr_named (P := Tryd.prog) (nm := "errors.errorString") (by rw [show "*" ++ "errors.errorString" = "*errors.errorString" from rfl]; kernel_rfl) (by kernel_rfl) (by decide) u (by rw [show "*" ++ "errors.errorString" = "*errors.errorString" from rfl]; exact h)

/-- The errors, out of what a row lists. -/
theorem errs_of {G : List (String × List UInt8 × Nat)} {W : World} (hg : globalsB Tryd.prog 26 G = true) (hn : (G.map (·.2.1)).Nodup) (hn2 : (G.map (·.2.2)).Nodup) (h : laidMet Tryd.prog (laidList "*errors.errorString" G) W) :
    Errs W (erAddr W) (G.map (·.2.2)) := by
  have key := laid_errs (P := Tryd.prog) (nm := "*errors.errorString") (W := W) (ti := 26) (tp := 113) (te := 130) (ts := 9) (f := ⟨ "s", 9, 0, false, "", "errors", 0⟩) Tryd.underlying26 row113 (by kernel_rfl) (by kernel_rfl) rfl rfl (by kernel_rfl) (by kernel_rfl) (by kernel_rfl) G (fun x hx => by
    have := List.all_eq_true.1 hg x hx
    simpa using this) h
  have at_ : ∀ x ∈ G, ∃ (s : ByteArray) (c : Array Value) (t : TypeId), cellOf W.heap[x.2.2]? 0 = some (.iface 113 (.pointer (some (erAddr W x.2.2)))) ∧ W.cell? (erAddr W x.2.2) = some (.string s) ∧ s.data.toList = x.2.1 ∧ W.heap[(erAddr W x.2.2).block]? = some (.cells c t (0, 0)) := by
    intro x hx
    obtain ⟨a, s, c, t, h1, h2, h3, h4⟩ := key x hx
    have : erAddr W x.2.2 = a := by unfold erAddr; rw [h1]
    rw [this]
    exact ⟨s, c, t, h1, h2, h3, h4⟩
  refine ⟨fun g hg => ?_, fun g hg => ?_, fun g hg g' hg' he => ?_⟩
  · obtain ⟨x, hx, rfl⟩ := List.mem_map.1 hg
    obtain ⟨s, c, t, h1, _⟩ := at_ x hx
    exact h1
  · obtain ⟨x, hx, rfl⟩ := List.mem_map.1 hg
    obtain ⟨s, c, t, _, _, _, h4⟩ := at_ x hx
    exact ⟨c, t, h4⟩
  · obtain ⟨x, hx, rfl⟩ := List.mem_map.1 hg
    obtain ⟨y, hy, rfl⟩ := List.mem_map.1 hg'
    obtain ⟨s, c, t, _, h2, h3, _⟩ := at_ x hx
    obtain ⟨s', c', t', _, h2', h3', _⟩ := at_ y hy
    rw [he, h2'] at h2
    cases h2
    have hxy : x.2.1 = y.2.1 := h3.symm.trans h3'
    have inj : ∀ (l : List (String × List UInt8 × Nat)), (l.map (·.2.1)).Nodup → ∀ x ∈ l, ∀ y ∈ l, x.2.1 = y.2.1 → x = y := by
      intro l
      induction l with
      | nil => intro _ x hx; cases hx
      | cons z l ih =>
        intro hn x hx y hy e
        rw [List.map_cons, List.nodup_cons] at hn
        rcases List.mem_cons.1 hx with rfl | hx2 <;> rcases List.mem_cons.1 hy with rfl | hy2
        · rfl
        · exact absurd (List.mem_map.2 ⟨y, hy2, e.symm⟩) hn.1
        · exact absurd (List.mem_map.2 ⟨x, hx2, e⟩) hn.1
        · exact ih hn.2 x hx2 y hy2 e
    rw [inj G hn x hx y hy hxy]

/-- What lies in a law's memory when it begins. -/
def old_ (w : World) : Nat → Prop := fun b => b < w.heap.size
theorem by_of {w : World} {es : List Value} (h : Rdd Tryd.prog w 31 es) : ∃ v bs, es = [v] ∧ By w v bs (old_ w) := by
  obtain ⟨a, n, c, rfl, hnc, hb, hr⟩ := h.slice (e := 5) (by kernel_rfl) (by rw [(show Tryd.prog.cellsOf 5 = 1 from by kernel_rfl)]; omega)
  rw [(show Tryd.prog.bytesOf 5 = 1 from by kernel_rfl)] at hb
  have hmax : n ≤ MAXB := by unfold MAXB; unfold reachBytes at hb; omega
  rcases hr with ⟨rfl, _⟩ | ⟨b, o, csb, e', fr, rfl, hblk, hel⟩
  · exact ⟨_, [], rfl, ⟨a, c, rfl, hnc, rfl, by simp [u8s], .inl rfl⟩, hmax⟩
  · rw [(show Tryd.prog.cellsOf 5 = 1 from by kernel_rfl)] at hel
    obtain ⟨bs, hl, hp⟩ := list_of (α := UInt8) (p := fun i x => csb[o + i]? = some (.int .u8 x.toNat)) (n := n) (fun i hi => by
      obtain ⟨es, hl, hc, hrd⟩ := hel i hi
      obtain ⟨m, rfl, h1, h2⟩ := hrd.int (k := .u8) (by kernel_rfl)
      have := hc 0 (by omega)
      simp only [Nat.mul_one, Nat.add_zero, List.getElem?_cons_zero] at this
      have h1' : 0 ≤ m := h1
      have h2' : m ≤ 255 := h2
      refine ⟨UInt8.ofNat m.toNat, this.trans ?_⟩
      rw [UInt8.toNat_ofNat', Nat.mod_eq_of_lt (by omega)]
      congr 2
      omega)
    subst hl
    refine ⟨_, bs, rfl, ⟨some ⟨b, o, none⟩, c, rfl, hnc, by simp [u8s], u8s_one, .inr ⟨b, o, csb, e', fr, rfl, blk_lt hblk, hblk, fun j hj => ?_⟩⟩, hmax⟩
    have hj' : j < bs.length := by simpa [u8s] using hj
    rw [hp j hj']
    simp [u8s, hj']
theorem block_of {w : World} {es : List Value} (h : Rdd Tryd.prog w 33 es) : ∃ vh vb hs bs, es = [vh, vb] ∧ By w vh hs (old_ w) ∧ By w vb bs (old_ w) := by
  obtain ⟨hl, hf⟩ := h.struct (fs := #[⟨ "Head", 31, 0, false, "", "", 0⟩, ⟨ "Body", 31, 1, false, "", "", 24⟩]) (by kernel_rfl)
  rw [(show Tryd.prog.cellsOf 33 = 2 from by kernel_rfl)] at hl
  match es, hl with
  | [a, b], _ =>
    have h0 := hf 0 ⟨ "Head", 31, 0, false, "", "", 0⟩ rfl
    have h1 := hf 1 ⟨ "Body", 31, 1, false, "", "", 24⟩ rfl
    dsimp only at h0 h1
    rw [(show Tryd.prog.cellsOf 31 = 1 from by kernel_rfl)] at h0 h1
    obtain ⟨vh, hs, e0, hh⟩ := by_of h0
    obtain ⟨vb, bs, e1, hb⟩ := by_of h1
    simp at e0 e1
    subst e0 e1
    exact ⟨_, _, hs, bs, rfl, hh, hb⟩
theorem op_of {w : World} {es : List Value} (h : Rdd Tryd.prog w 35 es) : ∃ (x : OpD) (vh vb : Value), es = [.int .i64 x.kind, .int .i64 x.which, .int .i64 x.slot, vh, vb] ∧ By w vh x.head (old_ w) ∧ By w vb x.body (old_ w) := by
  obtain ⟨hl, hf⟩ := h.struct (fs := #[⟨ "Kind", 3, 0, false, "", "", 0⟩, ⟨ "Which", 3, 1, false, "", "", 8⟩, ⟨ "Slot", 3, 2, false, "", "", 16⟩, ⟨ "Block", 33, 3, false, "", "", 24⟩]) (by kernel_rfl)
  rw [(show Tryd.prog.cellsOf 35 = 5 from by kernel_rfl)] at hl
  match es, hl with
  | [a, b, c, d, e], _ =>
    have h0 := hf 0 ⟨ "Kind", 3, 0, false, "", "", 0⟩ rfl
    have h1 := hf 1 ⟨ "Which", 3, 1, false, "", "", 8⟩ rfl
    have h2 := hf 2 ⟨ "Slot", 3, 2, false, "", "", 16⟩ rfl
    have h3 := hf 3 ⟨ "Block", 33, 3, false, "", "", 24⟩ rfl
    dsimp only at h0 h1 h2 h3
    rw [(show Tryd.prog.cellsOf 3 = 1 from by kernel_rfl)] at h0 h1 h2
    rw [(show Tryd.prog.cellsOf 33 = 2 from by kernel_rfl)] at h3
    obtain ⟨k, e0, _⟩ := h0.int (k := .i64) (by kernel_rfl)
    obtain ⟨m, e1, _⟩ := h1.int (k := .i64) (by kernel_rfl)
    obtain ⟨n, e2, _⟩ := h2.int (k := .i64) (by kernel_rfl)
    obtain ⟨vh, vb, hs, bs, e3, hh, hb⟩ := block_of h3
    simp at e0 e1 e2 e3
    obtain ⟨e3, e4⟩ := e3
    subst e0 e1 e2 e3 e4
    exact ⟨⟨k, m, n, hs, bs⟩, _, _, rfl, hh, hb⟩
theorem ops_of {w : World} {es : List Value} (h : Rdd Tryd.prog w 22 es) : ∃ v ops, es = [v] ∧ Ops w v ops (old_ w) := by
  obtain ⟨a, n, c, rfl, hnc, hb, hr⟩ := h.slice (e := 35) (by kernel_rfl) (by rw [(show Tryd.prog.cellsOf 35 = 5 from by kernel_rfl)]; omega)
  rw [(show Tryd.prog.bytesOf 35 = 72 from by kernel_rfl)] at hb
  have hmax : n ≤ 17592186044416 := by unfold reachBytes at hb; omega
  rcases hr with ⟨rfl, _⟩ | ⟨b, o, csb, e', fr, rfl, hblk, hel⟩
  · exact ⟨_, [], rfl, a, c, rfl, hmax, .inl rfl⟩
  · rw [(show Tryd.prog.cellsOf 35 = 5 from by kernel_rfl)] at hel
    obtain ⟨ops, hl, hp⟩ := list_of (α := OpD) (p := fun i x => ∃ vh vb, csb[o + i * 5]? = some (.int .i64 x.kind) ∧ csb[o + i * 5 + 1]? = some (.int .i64 x.which) ∧ csb[o + i * 5 + 2]? = some (.int .i64 x.slot) ∧
      csb[o + i * 5 + 3]? = some vh ∧ csb[o + i * 5 + 4]? = some vb ∧ By w vh x.head (old_ w) ∧ By w vb x.body (old_ w)) (n := n) (fun i hi => by
      obtain ⟨es, hl, hc, hrd⟩ := hel i hi
      obtain ⟨x, vh, vb, rfl, hh, hb⟩ := op_of hrd
      exact ⟨x, vh, vb, hc 0 (by omega), hc 1 (by omega), hc 2 (by omega), hc 3 (by omega), hc 4 (by omega), hh, hb⟩)
    subst hl
    exact ⟨_, ops, rfl, some ⟨b, o, none⟩, c, rfl, hmax, .inr ⟨b, o, csb, e', fr, rfl, blk_lt hblk, hblk, fun i hi => hp i hi⟩⟩
end Go.Proofs.YtfiakplgifimkaaDoor
