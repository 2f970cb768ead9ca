/- The argument of ManifestLasts, opened. -/
import Derived.Test.YtgkegfgdpekehaaMy
import Derived.Test.YtgkegfgdpekehaaDm
namespace Go.Proofs.Ytgkegfgdpekehaa
open Go.RowKit Go.Acre Go.Acre.Dk
/-- A slice of saves that came in: each save's three cells. -/
def Savs (w : World) (a : Option Addr) (len : Nat) : Prop :=
  ∀ i, i < len → ∃ (g o : Nat) (la : Option Addr) (ll lc : Nat) (L : List Nat) (lg : Nat) (ka : Option Addr) (kl kc : Nat) (zs : List Int), a = some ⟨g, o, none⟩ ∧ w.cell? ⟨g, o + i * 3, none⟩ = some (.slice la ll lc) ∧ w.cell? ⟨g, o + i * 3 + 1, none⟩ = some (.int .u32 (lg : Nat)) ∧
    w.cell? ⟨g, o + i * 3 + 2, none⟩ = some (.slice ka kl kc) ∧ lg < 4294967296 ∧ ll = L.length ∧ IntsAt .u8 w (.slice la ll lc) (L.map Int.ofNat) ∧ (∀ x ∈ L, x < 256) ∧ ll ≤ 9223372036854775807 ∧
    IntsAt .i64 w (.slice ka kl kc) zs ∧ kl = zs.length ∧ kl ≤ 9223372036854775807 ∧ ∀ z ∈ zs, -9223372036854775808 ≤ z ∧ z ≤ 9223372036854775807
theorem bytes_list {z : List Int} (h : ∀ n ∈ z, (Lit.int .u8 n).wf = true) : z = (z.map Int.toNat).map Int.ofNat ∧ ∀ x ∈ z.map Int.toNat, x < 256 := by
  constructor
  · rw [List.map_map]
    conv => lhs; rw [← List.map_id z]
    apply List.map_congr_left
    intro n hn
    have := byte_of_wf (h n hn)
    show n = ((n.toNat : Nat) : Int)
    omega
  · intro x hx
    obtain ⟨n, hn, rfl⟩ := List.mem_map.1 hx
    have := byte_of_wf (h n hn)
    omega
theorem uint32_of_wf {n : Int} (h : (Lit.int .u32 n).wf = true) : 0 ≤ n ∧ n < 4294967296 := by
  simp [Lit.wf, IntKind.min, IntKind.max, IntKind.signed, IntKind.bits] at h
  omega
theorem ints_len {k : IntKind} {w : World} {a : Option Addr} {len cap : Nat} {z : List Int} (h : IntsAt k w (.slice a len cap) z) : len ≤ 9223372036854775807 := by
  obtain ⟨_, _, _, hv, h3, h4, _⟩ := h
  simp only [Value.slice.injEq] at hv
  obtain ⟨_, rfl, _⟩ := hv
  unfold maxLen at h4
  omega
section
open Go.ChangeShapes Go.WideShapes Go.Deep
variable {H : Type} {enc : TypeId × Value → H} {w : World} {held : Bool}
theorem sav_open {base : Nat} {fuel len cap : Nat} {a : Option Addr} {x : DataW H × List MemPlace} (h : DataW.trod enc Try.prog w base (fun _ => true) held fuel 86 (Value.slice a len cap).cells.toList = some x) :
    Savs w a len ∧ len ≤ maxLen := by
  rcases open_slice_fields Try.underlying86 Try.underlying88 (by kernel_rfl) (by kernel_rfl) h with ⟨hcs, _⟩ | ⟨⟨b, off, spot⟩, l, c, m, hcs, hl, hm, hmm, hi⟩
  · simp [Value.cells] at hcs
    obtain ⟨rfl, rfl, rfl⟩ := hcs
    exact ⟨fun i hi => by omega, by omega⟩
  · simp [Value.cells] at hcs
    obtain ⟨rfl, rfl, rfl⟩ := hcs
    have hmc : m = cap := by simpa using hmm
    subst hmc
    refine ⟨fun i hil => ?_, by omega⟩
    obtain ⟨n, hf⟩ := hi i (by omega)
    obtain ⟨v0, y0, c0, t0⟩ := hf 0 _ rfl
    obtain ⟨v1, y1, c1, t1⟩ := hf 1 _ rfl
    obtain ⟨v2, y2, c2, t2⟩ := hf 2 _ rfl
    obtain ⟨k, e1, _, hk⟩ := DataW.trod_int (k := .u32) Try.underlying25 t1
    simp only [List.cons.injEq, and_true] at e1
    subst e1
    have hspot : spot = none := by
      obtain ⟨n', hf'⟩ := hi 0 (by omega)
      obtain ⟨v', y', c', t'⟩ := hf' 0 _ rfl
      simpa [Addr.add] using World.cell?_spot c'
    subst hspot
    rw [none_add] at c0 c1 c2
    rw [← Nat.add_assoc] at c0 c1 c2
    obtain ⟨la, ll, lc, rfl⟩ : ∃ ka kl kc, v0 = .slice ka kl kc := by
      rcases open_slice Try.underlying34 t0 with ⟨e3, _⟩ | ⟨_, _, _, _, _, _, _, e3, _⟩ <;> (simp only [List.cons.injEq, and_true] at e3; exact ⟨_, _, _, e3⟩)
    obtain ⟨ka, kl, kc, rfl⟩ : ∃ ka kl kc, v2 = .slice ka kl kc := by
      rcases open_slice Try.underlying40 t2 with ⟨e3, _⟩ | ⟨_, _, _, _, _, _, _, e3, _⟩ <;> (simp only [List.cons.injEq, and_true] at e3; exact ⟨_, _, _, e3⟩)
    obtain ⟨z, z1, z2, z3⟩ := IntsAt_open (k := .u8) Try.underlying34 Try.underlying5 (by kernel_rfl) (show DataW.trod enc Try.prog w base (fun _ => true) held n 34 (Value.slice la ll lc).cells.toList = some y0 from t0)
    obtain ⟨zs, s1, s2, s3⟩ := IntsAt_open (k := .i64) Try.underlying40 Try.underlying3 (by kernel_rfl) (show DataW.trod enc Try.prog w base (fun _ => true) held n 40 (Value.slice ka kl kc).cells.toList = some y2 from t2)
    obtain ⟨b1, b2⟩ := bytes_list z3
    have hlg := uint32_of_wf hk
    obtain ⟨lg, rfl⟩ : ∃ lg : Nat, k = (lg : Int) := ⟨k.toNat, by omega⟩
    refine ⟨b, off, la, ll, lc, z.map Int.toNat, lg, ka, kl, kc, zs, rfl, c0, c1, c2, by omega, by rw [List.length_map]; exact z2, by rw [← b1]; exact z1, b2, ints_len z1, s1, s2, ints_len s1, fun z hz => int_of_wf (s3 z hz)⟩
end
end Go.Proofs.Ytgkegfgdpekehaa
