/- Two disks side by side; a slice of steps that came in; DiskRefused's walk. -/
import Derived.Test.YtgkegfgdpekehaaGreatDk
import Derived.Test.YtgkegfgdpekehaaGreatS
import Derived.Deep.Slices
import Derived.Deep.Fields
import Derived.Lib.SmallJoins
namespace Go.Proofs.YtgkegfgdpekehaaGreat
open Go.RowKit Go.Acre Go.Acre.Dk Go.Maps

/-- two disks side by side in new memory -/
def Two (w0 w : World) (d1 d2 room n : Nat) (D1 D2 : Files) : Prop :=
  ∃ S1 S2, Has w S1 d1 room n D1 ∧ Has w S2 d2 room n D2 ∧ (∀ k, S1 k → w0.heap.size ≤ k) ∧ (∀ k, S2 k → w0.heap.size ≤ k) ∧ (∀ k, S1 k → ¬ S2 k) ∧ Upd (fun _ => False) w0 w
theorem has_below {w : World} {S : Nat → Prop} {db room n : Nat} {D : Files} (h : Has w S db room n D) : ∀ k, S k → k < w.heap.size := by
  obtain ⟨E, hE, _⟩ := h
  exact hE.below
theorem Two.make {w0 w w' : World} {d1 d2 room n : Nat} {D : Files} {S2 : Nat → Prop} (h : Dsk w0 w d1 room n D) (h2 : Has w' S2 d2 room n D) (hS : ∀ k, S2 k → w.heap.size ≤ k) (hu : Upd (fun _ => False) w w') : Two w0 w' d1 d2 room n D D := by
  obtain ⟨S, g1, g2, g3⟩ := h
  exact ⟨S, S2, g1.upd hu (fun _ _ f => f), h2, g2, fun k hk => Nat.le_trans g3.size (hS k hk), fun k h1 h2 => by have := has_below g1 k h1; have := hS k h2; omega, g3.trans hu (fun _ _ h => h)⟩
theorem Two.upd {w0 w w' : World} {d1 d2 room n : Nat} {D1 D2 : Files} (h : Two w0 w d1 d2 room n D1 D2) (hu : Upd (fun _ => False) w w') : Two w0 w' d1 d2 room n D1 D2 := by
  obtain ⟨S1, S2, h1, h2, h3, h4, h5, h6⟩ := h
  exact ⟨S1, S2, h1.upd hu (fun _ _ f => f), h2.upd hu (fun _ _ f => f), h3, h4, h5, h6.trans hu (fun _ _ h => h)⟩
theorem Two.left {w0 w : World} {d1 d2 room n : Nat} {D1 D2 : Files} (h : Two w0 w d1 d2 room n D1 D2) : Dsk w0 w d1 room n D1 := by
  obtain ⟨S1, S2, h1, h2, h3, h4, h5, h6⟩ := h
  exact ⟨S1, h1, h3, h6⟩
theorem Two.right {w0 w : World} {d1 d2 room n : Nat} {D1 D2 : Files} (h : Two w0 w d1 d2 room n D1 D2) : Dsk w0 w d2 room n D2 := by
  obtain ⟨S1, S2, h1, h2, h3, h4, h5, h6⟩ := h
  exact ⟨S2, h2, h4, h6⟩
theorem Two.fresh {w0 w : World} {d1 d2 room n : Nat} {D1 D2 : Files} (h : Two w0 w d1 d2 room n D1 D2) : Upd (fun _ => False) w0 w := h.left.fresh
theorem two_any {P : Program} {f : FuncId} {args : Array Value} {w0 w : World} {d1 d2 room n m : Nat} {D1 D2 D' : Files} {code : Nat} (h : Two w0 w d1 d2 room n D1 D2) (hm : n ≤ m) (hc : ∀ S, Has w S d1 room n D1 → Calls P f args w (Op S w d1 room m D' code)) :
    Calls P f args w fun e w' => e = .returned (.int .i64 (code : Nat)) ∧ Two w0 w' d1 d2 room m D' D2 := by
  obtain ⟨S1, S2, h1, h2, h3, h4, h5, h6⟩ := h
  refine (hc S1 h1).mono ?_
  rintro e w' ⟨rfl, S', g1, g2, g3⟩
  exact ⟨rfl, S', S2, g1, (h2.upd g3 (fun k k2 k1 => h5 k k1 k2)).mono hm, fun k hk => (g2 k hk).elim (h3 k) (fun e => Nat.le_trans h6.size e), h4,
    fun k hk hk2 => (g2 k hk).elim (fun hs => h5 k hs hk2) (fun e => by have := has_below h2 k hk2; omega), Upd.fresh h6 g3 h3⟩
/-- an operation that was refused has changed nothing -/
theorem append_same {room : Nat} {D : Files} {a b : ByteArray} (h : (appendD room D a b).2 ≠ 0) : (appendD room D a b).1 = D := by
  unfold appendD at h ⊢
  split
  · split
    · rename_i h1 h2
      simp only [h1, h2, if_true] at h
      split at h <;> simp at h
    · rfl
  · rfl
theorem sync_same {D : Files} {a : ByteArray} (h : (syncD D a).2 ≠ 0) : (syncD D a).1 = D := by
  unfold syncD at h ⊢
  split <;> simp_all
theorem rename_same {D : Files} {a b : ByteArray} (h : (renameD D a b).2 ≠ 0) : (renameD D a b).1 = D := by
  unfold renameD at h ⊢
  split
  · split <;> simp_all
  · rfl
theorem remove_same {D : Files} {a : ByteArray} (h : (removeD D a).2 ≠ 0) : (removeD D a).1 = D := by
  unfold removeD at h ⊢
  split <;> simp_all

/-- A slice of steps that came in: each step's four cells. -/
def Dos (w : World) (a : Option Addr) (len : Nat) : Prop :=
  ∀ i, i < len → ∃ (g o : Nat) (k : Int) (nm dt : ByteArray) (ka : Option Addr) (kl kc : Nat) (zs : List Int), a = some ⟨g, o, none⟩ ∧ w.cell? ⟨g, o + i * 4, none⟩ = some (.int .i64 k) ∧ w.cell? ⟨g, o + i * 4 + 1, none⟩ = some (.string nm) ∧
    w.cell? ⟨g, o + i * 4 + 2, none⟩ = some (.string dt) ∧ w.cell? ⟨g, o + i * 4 + 3, none⟩ = some (.slice ka kl kc) ∧ (-9223372036854775808 ≤ k ∧ k ≤ 9223372036854775807) ∧ nm.size ≤ maxLen ∧ dt.size ≤ maxLen ∧
    IntsAt .i64 w (.slice ka kl kc) zs ∧ kl = zs.length ∧ ∀ z ∈ zs, -9223372036854775808 ≤ z ∧ z ≤ 9223372036854775807
section
open Go.ChangeShapes Go.WideShapes Go.Deep
variable {H : Type} {enc : TypeId × Value → H} {P : Program} {w : World} {base : Nat} {spare : Nat → Bool} {held : Bool}
theorem open_slice_fields {t e : TypeId} {fs : Array Field} {fuel : Nat} {cs : List Value} {x : DataW H × List MemPlace} (ht : P.underlying t = some (.slice e)) (he : P.underlying e = some (.struct fs))
    (hone : oneCellFields P fs = true) (hC : P.cellsOf e = fs.size) (h : DataW.trod enc P w base spare held fuel t cs = some x) :
    (cs = [.slice none 0 0] ∧ x = (.nil, [])) ∨
    ∃ (a : Addr) (len cap m : Nat), cs = [.slice (some a) len cap] ∧ len ≤ cap ∧ cap ≤ maxLen ∧ m = (if spare a.block then cap else len) ∧
      ∀ i, i < m → ∃ (n : Nat), ∀ (j : Nat) (f : Field), fs[j]? = some f → ∃ (v : Value) (y : DataW H × List MemPlace), w.cell? (a.add (i * fs.size + j)) = some v ∧ DataW.trod enc P w base spare held n f.type [v] = some y := by
  rcases open_slice ht h with h0 | ⟨a, len, cap, m, n, D, Pl, hcs, hb, hl, hm, hmm, hx, hi⟩
  · exact .inl h0
  · refine .inr ⟨a, len, cap, m, hcs, hl, hm, hmm, fun i him => ?_⟩
    obtain ⟨cs', hc, ht'⟩ := hi i him
    rw [hC] at hc
    obtain ⟨ys, n', hn', hy, hlen, hyl, hf⟩ := DataW.trod_struct he ht'
    obtain ⟨_, hcl, hat⟩ := World.cells?_some hc
    refine ⟨n', fun j f hj => ?_⟩
    obtain ⟨ho, hk⟩ := hone_of hone j f hj
    have hjl : j < fs.size := (Array.getElem?_eq_some_iff.1 hj).1
    have hcell := hat j hjl
    have hv : cs'[j]? = some (cs'[j]'(by omega)) := List.getElem?_eq_getElem (by omega)
    have h1 := hf j f hj
    rw [ho, hk] at h1
    have hone' : (cs'.drop j).take 1 = [cs'[j]'(by omega)] := by
      rw [List.drop_eq_getElem_cons (by omega)]
      rfl
    rw [hone'] at h1
    have hys : ys[j]? = some (ys[j]'(by omega)) := List.getElem?_eq_getElem (by omega)
    refine ⟨_, _, ?_, h1.trans hys⟩
    rw [← Go.Deep.add_add, hcell, hv]
theorem none_add (b off j : Nat) : (⟨b, off, none⟩ : Addr).add j = ⟨b, off + j, none⟩ := by unfold Addr.add; split <;> simp_all
end
end Go.Proofs.YtgkegfgdpekehaaGreat
