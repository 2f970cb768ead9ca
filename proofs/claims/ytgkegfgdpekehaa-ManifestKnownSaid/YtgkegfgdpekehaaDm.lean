/- Two disks side by side; a slice of steps that came in; DiskRefused's walk. -/
import Derived.Test.YtgkegfgdpekehaaDk
import Derived.Test.YtgkegfgdpekehaaS
import Derived.Deep.Slices
import Derived.Deep.Fields
import Derived.Lib.SmallJoins
namespace Go.Proofs.Ytgkegfgdpekehaa
open Go.RowKit Go.Acre Go.Acre.Dk Go.Maps

/-- two disks side by side in new memory -/
def Two (w0 w : World) (d1 d2 room n : Nat) (D1 D2 : Files) : Prop :=
  ∃ S1 S2, Has w S1 d1 room n D1 ∧ Has w S2 d2 room n D2 ∧ (∀ k, S1 k → w0.heap.size ≤ k) ∧ (∀ k, S2 k → w0.heap.size ≤ k) ∧ (∀ k, S1 k → ¬ S2 k) ∧ Upd (fun _ => False) w0 w
theorem has_below {w : World} {S : Nat → Prop} {db room n : Nat} {D : Files} (h : Has w S db room n D) : ∀ k, S k → k < w.heap.size := by
  obtain ⟨E, hE, _⟩ := h
  exact hE.below
theorem Two.make {w0 w w' : World} {d1 d2 room n : Nat} {D : Files} {S2 : Nat → Prop} (h : Dsk w0 w d1 room n D) (h2 : Has w' S2 d2 room n D) (hS : ∀ k, S2 k → w.heap.size ≤ k) (hu : Upd (fun _ => False) w w') : Two w0 w' d1 d2 room n D D := by
  obtain ⟨S, g1, g2, g3⟩ := h
  exact ⟨S, S2, g1.upd hu (fun _ _ f => f), h2, g2, fun k hk => Nat.le_trans g3.size (hS k hk), fun k h1 h2 => by have := has_below g1 k h1; have := hS k h2; omega, g3.trans hu (fun _ _ h => h)⟩
theorem Two.upd {w0 w w' : World} {d1 d2 room n : Nat} {D1 D2 : Files} (h : Two w0 w d1 d2 room n D1 D2) (hu : Upd (fun _ => False) w w') : Two w0 w' d1 d2 room n D1 D2 := by
  obtain ⟨S1, S2, h1, h2, h3, h4, h5, h6⟩ := h
  exact ⟨S1, S2, h1.upd hu (fun _ _ f => f), h2.upd hu (fun _ _ f => f), h3, h4, h5, h6.trans hu (fun _ _ h => h)⟩
theorem Two.left {w0 w : World} {d1 d2 room n : Nat} {D1 D2 : Files} (h : Two w0 w d1 d2 room n D1 D2) : Dsk w0 w d1 room n D1 := by
  obtain ⟨S1, S2, h1, h2, h3, h4, h5, h6⟩ := h
  exact ⟨S1, h1, h3, h6⟩
theorem Two.right {w0 w : World} {d1 d2 room n : Nat} {D1 D2 : Files} (h : Two w0 w d1 d2 room n D1 D2) : Dsk w0 w d2 room n D2 := by
  obtain ⟨S1, S2, h1, h2, h3, h4, h5, h6⟩ := h
  exact ⟨S2, h2, h4, h6⟩
theorem Two.fresh {w0 w : World} {d1 d2 room n : Nat} {D1 D2 : Files} (h : Two w0 w d1 d2 room n D1 D2) : Upd (fun _ => False) w0 w := h.left.fresh
theorem two_any {P : Program} {f : FuncId} {args : Array Value} {w0 w : World} {d1 d2 room n m : Nat} {D1 D2 D' : Files} {code : Nat} (h : Two w0 w d1 d2 room n D1 D2) (hm : n ≤ m) (hc : ∀ S, Has w S d1 room n D1 → Calls P f args w (Op S w d1 room m D' code)) :
    Calls P f args w fun e w' => e = .returned (.int .i64 (code : Nat)) ∧ Two w0 w' d1 d2 room m D' D2 := by
  obtain ⟨S1, S2, h1, h2, h3, h4, h5, h6⟩ := h
  refine (hc S1 h1).mono ?_
  rintro e w' ⟨rfl, S', g1, g2, g3⟩
  exact ⟨rfl, S', S2, g1, (h2.upd g3 (fun k k2 k1 => h5 k k1 k2)).mono hm, fun k hk => (g2 k hk).elim (h3 k) (fun e => Nat.le_trans h6.size e), h4,
    fun k hk hk2 => (g2 k hk).elim (fun hs => h5 k hs hk2) (fun e => by have := has_below h2 k hk2; omega), Upd.fresh h6 g3 h3⟩
theorem d_copy {w0 w : World} {db room n : Nat} {D : Files} (h : Dsk w0 w db room n D) (hn : n ≤ 1000000) :
    Calls Try.prog 49 #[.pointer (some ⟨db, 0, none⟩)] w fun e w' => ∃ d2, e = .returned (.pointer (some ⟨d2, 0, none⟩)) ∧ Two w0 w' db d2 room n D D ∧ Upd (fun _ => False) w w' := by
  have hh := h
  obtain ⟨S, h1, h2, h3⟩ := h
  refine (copy_any h1 hn).mono ?_
  rintro e w' ⟨d2, S2, rfl, g1, g2, g3⟩
  exact ⟨d2, rfl, Two.make hh g1 g2 g3, g3⟩
/-- an operation that was refused has changed nothing -/
theorem append_same {room : Nat} {D : Files} {a b : ByteArray} (h : (appendD room D a b).2 ≠ 0) : (appendD room D a b).1 = D := by
  unfold appendD at h ⊢
  split
  · split
    · rename_i h1 h2
      simp only [h1, h2, if_true] at h
      split at h <;> simp at h
    · rfl
  · rfl
theorem sync_same {D : Files} {a : ByteArray} (h : (syncD D a).2 ≠ 0) : (syncD D a).1 = D := by
  unfold syncD at h ⊢
  split <;> simp_all
theorem rename_same {D : Files} {a b : ByteArray} (h : (renameD D a b).2 ≠ 0) : (renameD D a b).1 = D := by
  unfold renameD at h ⊢
  split
  · split <;> simp_all
  · rfl
theorem remove_same {D : Files} {a : ByteArray} (h : (removeD D a).2 ≠ 0) : (removeD D a).1 = D := by
  unfold removeD at h ⊢
  split <;> simp_all

/-- A slice of steps that came in: each step's four cells. -/
def Dos (w : World) (a : Option Addr) (len : Nat) : Prop :=
  ∀ i, i < len → ∃ (g o : Nat) (k : Int) (nm dt : ByteArray) (ka : Option Addr) (kl kc : Nat) (zs : List Int), a = some ⟨g, o, none⟩ ∧ w.cell? ⟨g, o + i * 4, none⟩ = some (.int .i64 k) ∧ w.cell? ⟨g, o + i * 4 + 1, none⟩ = some (.string nm) ∧
    w.cell? ⟨g, o + i * 4 + 2, none⟩ = some (.string dt) ∧ w.cell? ⟨g, o + i * 4 + 3, none⟩ = some (.slice ka kl kc) ∧ (-9223372036854775808 ≤ k ∧ k ≤ 9223372036854775807) ∧ nm.size ≤ maxLen ∧ dt.size ≤ maxLen ∧
    IntsAt .i64 w (.slice ka kl kc) zs ∧ kl = zs.length ∧ ∀ z ∈ zs, -9223372036854775808 ≤ z ∧ z ≤ 9223372036854775807
section
open Go.ChangeShapes Go.WideShapes Go.Deep
variable {H : Type} {enc : TypeId × Value → H} {P : Program} {w : World} {base : Nat} {spare : Nat → Bool} {held : Bool}
theorem open_slice_fields {t e : TypeId} {fs : Array Field} {fuel : Nat} {cs : List Value} {x : DataW H × List MemPlace} (ht : P.underlying t = some (.slice e)) (he : P.underlying e = some (.struct fs))
    (hone : oneCellFields P fs = true) (hC : P.cellsOf e = fs.size) (h : DataW.trod enc P w base spare held fuel t cs = some x) :
    (cs = [.slice none 0 0] ∧ x = (.nil, [])) ∨
    ∃ (a : Addr) (len cap m : Nat), cs = [.slice (some a) len cap] ∧ len ≤ cap ∧ cap ≤ maxLen ∧ m = (if spare a.block then cap else len) ∧
      ∀ i, i < m → ∃ (n : Nat), ∀ (j : Nat) (f : Field), fs[j]? = some f → ∃ (v : Value) (y : DataW H × List MemPlace), w.cell? (a.add (i * fs.size + j)) = some v ∧ DataW.trod enc P w base spare held n f.type [v] = some y := by
  rcases open_slice ht h with h0 | ⟨a, len, cap, m, n, D, Pl, hcs, hb, hl, hm, hmm, hx, hi⟩
  · exact .inl h0
  · refine .inr ⟨a, len, cap, m, hcs, hl, hm, hmm, fun i him => ?_⟩
    obtain ⟨cs', hc, ht'⟩ := hi i him
    rw [hC] at hc
    obtain ⟨ys, n', hn', hy, hlen, hyl, hf⟩ := DataW.trod_struct he ht'
    obtain ⟨_, hcl, hat⟩ := World.cells?_some hc
    refine ⟨n', fun j f hj => ?_⟩
    obtain ⟨ho, hk⟩ := hone_of hone j f hj
    have hjl : j < fs.size := (Array.getElem?_eq_some_iff.1 hj).1
    have hcell := hat j hjl
    have hv : cs'[j]? = some (cs'[j]'(by omega)) := List.getElem?_eq_getElem (by omega)
    have h1 := hf j f hj
    rw [ho, hk] at h1
    have hone' : (cs'.drop j).take 1 = [cs'[j]'(by omega)] := by
      rw [List.drop_eq_getElem_cons (by omega)]
      rfl
    rw [hone'] at h1
    have hys : ys[j]? = some (ys[j]'(by omega)) := List.getElem?_eq_getElem (by omega)
    refine ⟨_, _, ?_, h1.trans hys⟩
    rw [← Go.Deep.add_add, hcell, hv]
theorem none_add (b off j : Nat) : (⟨b, off, none⟩ : Addr).add j = ⟨b, off + j, none⟩ := by unfold Addr.add; split <;> simp_all
theorem dos_open {base : Nat} {fuel len cap : Nat} {a : Option Addr} {x : DataW H × List MemPlace} (h : DataW.trod enc Try.prog w base (fun _ => true) held fuel 66 (Value.slice a len cap).cells.toList = some x) :
    Dos w a len ∧ len ≤ maxLen := by
  rcases open_slice_fields Try.underlying66 Try.underlying74 (by kernel_rfl) (by kernel_rfl) h with ⟨hcs, _⟩ | ⟨⟨b, off, spot⟩, l, c, m, hcs, hl, hm, hmm, hi⟩
  · simp [Value.cells] at hcs
    obtain ⟨rfl, rfl, rfl⟩ := hcs
    exact ⟨fun i hi => by omega, by omega⟩
  · simp [Value.cells] at hcs
    obtain ⟨rfl, rfl, rfl⟩ := hcs
    have hmc : m = cap := by simpa using hmm
    subst hmc
    refine ⟨fun i hil => ?_, by omega⟩
    obtain ⟨n, hf⟩ := hi i (by omega)
    obtain ⟨v0, y0, c0, t0⟩ := hf 0 _ rfl
    obtain ⟨v1, y1, c1, t1⟩ := hf 1 _ rfl
    obtain ⟨v2, y2, c2, t2⟩ := hf 2 _ rfl
    obtain ⟨v3, y3, c3, t3⟩ := hf 3 _ rfl
    obtain ⟨k, e0, _, hk⟩ := DataW.trod_int (k := .i64) Try.underlying3 t0
    obtain ⟨nm, e1, _, hnm⟩ := DataW.trod_string Try.underlying9 t1
    obtain ⟨dt, e2, _, hdt⟩ := DataW.trod_string Try.underlying9 t2
    simp only [List.cons.injEq, and_true] at e0 e1 e2
    subst e0 e1 e2
    have hspot : spot = none := by
      obtain ⟨n', hf'⟩ := hi 0 (by omega)
      obtain ⟨v', y', c', t'⟩ := hf' 0 _ rfl
      simpa [Addr.add] using World.cell?_spot c'
    subst hspot
    rw [none_add] at c0 c1 c2 c3
    rw [← Nat.add_assoc] at c0 c1 c2 c3
    obtain ⟨ka, kl, kc, rfl⟩ : ∃ ka kl kc, v3 = .slice ka kl kc := by
      rcases open_slice Try.underlying40 t3 with ⟨e3, _⟩ | ⟨_, _, _, _, _, _, _, e3, _⟩ <;> (simp only [List.cons.injEq, and_true] at e3; exact ⟨_, _, _, e3⟩)
    obtain ⟨zs, z1, z2, z3⟩ := IntsAt_open (k := .i64) Try.underlying40 Try.underlying3 (by kernel_rfl) (show DataW.trod enc Try.prog w base (fun _ => true) held n 40 (Value.slice ka kl kc).cells.toList = some y3 from t3)
    exact ⟨b, off, k, nm, dt, ka, kl, kc, zs, rfl, c0, c1, c2, c3, int_of_wf hk, hnm, hdt, z1, z2, fun z hz => int_of_wf (z3 z hz)⟩
end
end Go.Proofs.Ytgkegfgdpekehaa
