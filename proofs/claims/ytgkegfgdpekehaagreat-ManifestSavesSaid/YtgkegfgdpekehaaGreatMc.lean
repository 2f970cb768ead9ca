/- A row of bytes made of a string, to which bytes are appended; the walks of PutNumber and PutText, the program's and the reference's. -/
import Derived.Test.YtgkegfgdpekehaaGreatMa
import Derived.Laws.IdiomStrings
import Derived.Lib.FrozenHead2
import Derived.Outline
import Derived.Deep.CutBlock
namespace Go.Proofs.YtgkegfgdpekehaaGreat
open Go.RowKit Go.Acre

/-- a row of one-cell elements of the call's own, of which a stretch within its elements or behind its last cell may be marked -/
def ownsY (w : World) (base : Nat) (e : TypeId) (v : Value) (n : Nat) (xs : List Value) : Prop :=
  xs.length = n ∧ ∃ g cap cur fz, v = .slice (some ⟨g, 0, none⟩) n cap ∧ base ≤ g ∧ w.heap[g]? = some (.cells cur e fz) ∧ (fz.2 ≤ n ∨ cap ≤ fz.1) ∧ n ≤ cap ∧ cap ≤ maxLen ∧ cur.size = cap ∧ cur.toList.take n = xs
theorem ownsY.cells {w : World} {base : Nat} {e : TypeId} {v : Value} {n : Nat} {xs : List Value} (h : ownsY w base e v n xs) : ∃ g cap, v = .slice (some ⟨g, 0, none⟩) n cap ∧ base ≤ g ∧ g < w.heap.size ∧ n ≤ cap ∧ cap ≤ maxLen ∧ ∀ j u, xs[j]? = some u → w.cell? ⟨g, j, none⟩ = some u := by
  obtain ⟨h1, g, cap, cur, fz, rfl, h2, h3, h4, h5, h6, h7, h8⟩ := h
  refine ⟨g, cap, rfl, h2, lt_of_heap h3, h5, h6, fun j u hu => ?_⟩
  rw [cell_of_heap h3]
  rw [← h8, List.getElem?_take] at hu
  split at hu
  · simpa using hu
  · cases hu
theorem ownsY.upd {w w' : World} {base : Nat} {e : TypeId} {v : Value} {n : Nat} {xs : List Value} (h : ownsY w base e v n xs) (hu : Upd (fun _ => False) w w') : ownsY w' base e v n xs := by
  obtain ⟨h1, g, cap, cur, fz, rfl, h2, h3, r⟩ := h
  exact ⟨h1, g, cap, cur, fz, rfl, h2, hu.keep h3 (fun f => f), r⟩
theorem ownsY.row {w : World} {base : Nat} {e : TypeId} {v : Value} {n : Nat} {xs : List Value} (h : ownsY w base e v n xs) : RowAt w 1 v n xs := by
  have hl := h.1
  obtain ⟨g, cap, rfl, h2, h3, h4, h5, h6⟩ := h.cells
  refine ⟨by omega, _, cap, rfl, h4, h5, (fun e => by cases e), fun _ => ⟨g, 0, rfl, fun i hi => ?_⟩⟩
  rw [Nat.zero_add, h6 i xs[i] (List.getElem?_eq_getElem hi), List.getElem?_eq_getElem hi]
theorem ownsY.lt {w : World} {base : Nat} {e : TypeId} {v : Value} {n : Nat} {xs : List Value} (h : ownsY w base e v n xs) : ∀ k, v.ownBlock = some k → base ≤ k ∧ k < w.heap.size := by
  obtain ⟨g, cap, rfl, h2, h3, _⟩ := h.cells
  intro k hk
  simp [Value.ownBlock] at hk
  omega
section
variable {P : Program}
/-- one element is appended -/
theorem run_append_oneY (w : World) (base : Nat) (t ty e : TypeId) (i : TypeInfo) (z : Value) (bytes : Nat) (ht : P.underlying t = some (.slice e)) (hi : P.info? e = some i) (hz : i.zero = some z) (hsize : i.size = 1) (hby : i.bytes = bytes) (hzs : z.cells.size = 1)
    (v : Value) (n : Nat) (xs : List Value) (hown : ownsY w base e v n xs) (a : Addr) (c : Nat) (x : Value) (hx : w.cell? a = some x) (ha : a.add 0 = a) (h1 : x.oneCell' = true)
    (h63 : n + 1 ≤ maxLen) (hbytes : (n + 1) * bytes ≤ 140737488355328) (hbase : base ≤ w.heap.size) :
    ∃ v' w', (Builtin.append_ #[t, t] ty #[v, .slice (some a) 1 c]).run P w = .ok v' w' ∧ ownsY w' base e v' (n + 1) (xs ++ [x]) ∧ w.grownBy w' v.ownBlock := by
  have hcells := hown.cells
  obtain ⟨hl, g, cap, cur, fz, rfl, h2, h3, h4, h5, h6, h7, h8⟩ := hown
  have hnews : ∀ j u, [x][j]? = some u → w.cell? (a.add j) = some u := by
    intro j u hu
    cases j with
    | zero => rw [ha]; simp at hu; rw [hx, hu]
    | succ j => simp at hu
  have hadd : ∀ j, (⟨g, 0, none⟩ : Addr).add j = ⟨g, j, none⟩ := fun j => by unfold Addr.add; split <;> simp_all
  by_cases hroom : n + 1 ≤ cap
  · have hf := run_firstCells_some (P := P) w 1 1 a 1 c [x] rfl hnews
    have hfro : w.frozen? ⟨g, n, none⟩ = false := by
      obtain ⟨lo, hi'⟩ := fz
      simp only [World.frozen?, h3, Bool.and_eq_false_iff, decide_eq_false_iff_not]
      simp only at h4
      omega
    have hcell : w.cell? ⟨g, n, none⟩ = some cur[n] := by rw [cell_of_heap h3]; exact Array.getElem?_eq_getElem (by omega)
    have hst : (storeCells ⟨g, n, none⟩ [x]).run P w = .ok () (w.setCell ⟨g, n, none⟩ x) := by
      have ha0 : (⟨g, n, none⟩ : Addr).add 0 = ⟨g, n, none⟩ := by unfold Addr.add; split <;> simp_all
      simp only [storeCells, Sem.run_bind, ha0]
      rw [run_store P w _ x _ h1, hcell]
      simp [hfro]
    have hr : (Builtin.append_ #[t, t] ty #[.slice (some ⟨g, 0, none⟩) n cap, .slice (some a) 1 c]).run P w = .ok (.slice (some ⟨g, 0, none⟩) (n + 1) cap) (w.setCell ⟨g, n, none⟩ x) := by
      have hf' : (Builtin.firstCells 1 1 (.slice (some a) 1 c)).run P w = .ok #[x] w := hf
      simp [Builtin.append_, run_underlying ht, sizeOf, typeInfo, hi, hsize, Builtin.lenOf, hroom, hf', Addr.add_lit, hst]
    refine ⟨_, _, hr, ⟨by simp [hl], g, cap, _, fz, rfl, h2, heap_setCell h3 x, by omega, hroom, h6, by simpa using h7, ?_⟩, ?_⟩
    · rw [Array.toList_setIfInBounds, ← h8]
      apply List.ext_getElem?
      intro j
      by_cases hj : j < n
      · rw [List.getElem?_take, if_pos (by omega), List.getElem?_set_ne (by omega), List.getElem?_append_left (by rw [h8, hl]; exact hj), List.getElem?_take, if_pos hj]
      · by_cases hjn : j = n
        · subst hjn
          rw [List.getElem?_take, if_pos (by omega), List.getElem?_set_self (by simp; omega), List.getElem?_append_right (by rw [h8, hl]; exact Nat.le_refl _), h8, hl]
          simp
        · rw [List.getElem?_take, if_neg (by omega), List.getElem?_eq_none (by simp; omega)]
    · exact ⟨rfl, rfl, rfl, by simp [World.setCell], fun k _ hk => Below.heap_setCell _ _ _ _ (fun e => hk (by simp [Value.ownBlock, e]))⟩
  · have holds : ∀ j u, xs[j]? = some u → w.cell? ((⟨g, 0, none⟩ : Addr).add j) = some u := by
      obtain ⟨g', cap', hv, _, _, _, _, hc⟩ := hcells
      simp only [Value.slice.injEq, Option.some.injEq, Addr.mk.injEq, and_true, true_and] at hv
      obtain ⟨rfl, rfl⟩ := hv
      intro j u hu
      rw [hadd]
      exact hc j u hu
    have hsmall : n + 1 ≤ 9223372036854775807 := by simp only [maxLen] at h63; omega
    have hr := run_append_grow (P := P) w t ty e i z ht hi hz ⟨g, 0, none⟩ n cap xs (by rw [hsize]; omega) holds a 1 c [x] (by rw [hsize]; rfl) hnews (by omega) (by omega) (by rw [hby]; exact growslice_fits (by omega) hbytes)
    have hge := grownCap_ge w (n + 1) cap e
    have hcm2 : grownCap w (n + 1) cap e ≤ maxLen := grownCap_le_maxLen w (n + 1) cap e h63
    refine ⟨_, _, hr, ⟨by simp [hl], w.heap.size, _, _, (0, 0), rfl, hbase, heap_alloc_new w.drew _, .inl (Nat.zero_le _), hge, hcm2, ?_, ?_⟩, ⟨rfl, rfl, rfl, by simp, fun k hk _ => Below.heap_alloc w.drew _ k hk⟩⟩
    · simp only [Array.size_append, List.size_toArray, size_zeroCells, hzs, hl, List.length_cons, List.length_nil]
      omega
    · have he : (xs ++ [x]).length = n + 1 := by simp [hl]
      simp only [Array.toList_append, List.append_assoc]
      rw [← List.append_assoc, ← he]
      exact List.take_left
theorem wpList_append_oneY {w : World} {ops : Array Oper} {rest : List Oper} {o : Oper} {a : Act} {Q : Exit → Act → World → Prop} (hgd : o.guard = none) (s y : Operand) (t : TypeId)
    (ho : o.op = .call { callee := .builtin .append, args := #[s, y], argTypes := #[t, t] })
    (base : Nat) (e : TypeId) (i : TypeInfo) (z : Value) (bytes : Nat) (ht : P.underlying t = some (.slice e)) (hi : P.info? e = some i) (hz : i.zero = some z) (hsize : i.size = 1) (hby : i.bytes = bytes) (hzs : z.cells.size = 1)
    (v : Value) (n : Nat) (xs : List Value) (hs : a.eval s = v) (hown : ownsY w base e v n xs) (ad : Addr) (c : Nat) (x : Value) (hy : a.eval y = .slice (some ad) 1 c) (hx : w.cell? ad = some x) (ha : ad.add 0 = ad) (h1 : x.oneCell' = true)
    (h63 : n + 1 ≤ maxLen) (hbytes : (n + 1) * bytes ≤ 140737488355328) (hbase : base ≤ w.heap.size)
    (h : ∀ v' w', ownsY w' base e v' (n + 1) (xs ++ [x]) → w.grownBy w' v.ownBlock → wpList P ops Q rest (a.put o.dst v') w') : wpList P ops Q (o :: rest) a w := by
  refine wpList_plain hgd fun K hK => ?_
  obtain ⟨v', w', hr, h2, h3⟩ := run_append_oneY (P := P) w base t o.type e i z bytes ht hi hz hsize hby hzs v n xs hown ad c x hx ha h1 h63 hbytes hbase
  unfold Oper.wp execOp
  simp only [ho, resolve, invoke, builtin, Sem.run_bind, Sem.run_pure, Result.andThen_ok, List.map_toArray, List.map_cons, List.map_nil, hs, hy, hr]
  exact hK _ _ (h v' w' h2 h3)
end
/-- the bytes of a string as a row of numbers -/
def u8s (l : List Nat) : List Value := l.map fun b : Nat => Value.int .u8 (b : Int)
theorem bytes_row (w : World) (s : ByteArray) (cap : Nat) (hcap : s.size ≤ cap) (hm : cap ≤ maxLen) :
    ownsY (w.alloc (.cells (bytesRow s cap) 5 ((bytesRow s cap).size, (bytesRow s cap).size + 1))) w.heap.size 5 (.slice (some ⟨w.heap.size, 0, none⟩) s.size cap) s.size (u8s (nums s)) := by
  have hz : (bytesRow s cap).size = cap := by
    unfold bytesRow
    simp only [Array.size_append, Array.size_map, Array.size_replicate]
    show s.size + (cap - s.size) = cap
    omega
  refine ⟨by simp [u8s, nums_length], w.heap.size, cap, _, _, rfl, Nat.le_refl _, heap_alloc _, .inr (by simp only; omega), hcap, hm, hz, ?_⟩
  unfold bytesRow u8s nums
  rw [Array.toList_append, List.take_append_of_le_length (by simp), List.take_of_length_le (by simp)]
  simp
theorem or128 (u : Nat) : bits .or .u8 ((u : Int) % 256) 128 = ((u % 128 + 128 : Nat) : Int) := by
  have h : ∀ x : Nat, x < 256 → bits .or .u8 (x : Int) 128 = ((x % 128 + 128 : Nat) : Int) := by decide +kernel
  have e : (u : Int) % 256 = ((u % 256 : Nat) : Int) := by omega
  rw [e, h (u % 256) (by omega)]
  congr 2
  omega
theorem str_u8 (l : List Nat) : strOfNums (l.map fun b : Nat => (b : Int)) = str l := rfl
def PutPost (b : ByteArray) (x : ByteArray) (w : World) (e : Ending) (w' : World) : Prop := e = .returned (.string (b ++ x)) ∧ Upd (fun _ => False) w w'
theorem info5m : (Tryz.prog.info? 5).map (fun i => (i.zero, i.size, i.bytes)) = some (some (.int .u8 0), 1, 1) := by kernel_rfl
theorem str_append (a b : List Nat) : str (a ++ b) = str a ++ str b := by
  apply ByteArray.ext
  apply Array.ext'
  rw [ByteArray.data_append, Array.toList_append]
  simp only [str, strOfNums_data, List.map_append]
theorem str_nums (s : ByteArray) : str (nums s) = s := nums_inj (nums_str (nums_byte s))
set_option maxHeartbeats 2000000 in
set_option maxRecDepth 100000 in
theorem put_number (b : ByteArray) (v : Nat) (w : World) (hb : b.size ≤ 1099511627776) (hv : v < 18446744073709551616) : Calls Tryz.prog 56 #[.string b, .int .u64 (v : Nat)] w (PutPost b (str (num v)) w) := by
  obtain ⟨i0, hi, hz0, hz1, hz2⟩ := info_parts info5m
  have hcv := run_bytes_of_string (P := Tryz.prog) w 9 111 5 b Tryz.underlying9 Tryz.underlying111 Tryz.underlying5
  have hrow := bytes_row w.drew b (grownCap w b.size 0 5) (grownCap_ge w b.size 0 5) (grownCap_le_maxLen w b.size 0 5 (by unfold maxLen; omega))
  have hu0 : Upd (fun _ => False) w (w.drew.alloc (.cells (bytesRow b (grownCap w b.size 0 5)) 5 ((bytesRow b (grownCap w b.size 0 5)).size, (bytesRow b (grownCap w b.size 0 5)).size + 1))) := ((Upd.refl _ w).drew).alloc _
  have hrow2 : ownsY (w.alloc (.cells (bytesRow b (grownCap w b.size 0 5)) 5 ((bytesRow b (grownCap w b.size 0 5)).size, (bytesRow b (grownCap w b.size 0 5)).size + 1))).drew w.heap.size 5 (.slice (some ⟨w.heap.size, 0, none⟩) b.size (grownCap w b.size 0 5)) b.size (u8s (nums b)) := hrow
  have hu2 : Upd (fun _ => False) w (w.alloc (.cells (bytesRow b (grownCap w b.size 0 5)) 5 ((bytesRow b (grownCap w b.size 0 5)).size, (bytesRow b (grownCap w b.size 0 5)).size + 1))).drew := hu0
  have HROW := Lib.hid hrow2
  have HU0 := Lib.hid hu2
  clear hrow hu0 hrow2 hu2
  go_enter Tryz.func56, Tryz.ntmps56
  go_upto_block 0 with fail
  generalize (w.alloc (.cells (bytesRow b (grownCap w b.size 0 5)) 5 ((bytesRow b (grownCap w b.size 0 5)).size, (bytesRow b (grownCap w b.size 0 5)).size + 1))).drew = w0 at *
  generalize grownCap w b.size 0 5 = cap0 at *
  generalize hbase : w.heap.size = xb at *
  have HXB := Lib.hid hbase
  clear hbase hcv
  go_wp2_with fail
  go_loopw [1, 5] (fun x out wr => ∃ (u : Nat) (acc : List Nat), x = .int .u64 (u : Nat) ∧ u < 18446744073709551616 ∧ ownsY wr xb 5 out acc.length (u8s acc) ∧ Hid (acc ++ num u = nums b ++ num v) ∧ Upd (fun _ => False) w wr) (fun x _ _ => (intOf x).toNat)
  case atStart => exact ⟨v, nums b, rfl, hv, by rw [nums_length]; exact HROW.out, rfl, HU0.out⟩
  case round =>
    obtain ⟨u, acc, rfl, hu18, ho, HACC, hu⟩ := hrel
    have hlen : acc.length ≤ 1099511627776 + 10 := by
      have h1 := congrArg List.length HACC.out
      rw [List.length_append, List.length_append, nums_length] at h1
      have := num_ten hv
      omega
    have hxb : xb ≤ wr.heap.size := by have := HXB.out; have := hu.size; omega
    by_cases hbig : 128 ≤ u
    · have hbi : (128 : Int) ≤ (u : Int) := by omega
      have HACC2 : Hid ((acc ++ [u % 128 + 128]) ++ num (u / 128) = nums b ++ num v) := by
        show _ = _
        rw [← HACC.out, num_big hbig, List.append_assoc]
        rfl
      have hoa := (ho.upd ((Upd.refl (fun _ => False) wr).alloc (.cells #[.int .u8 (bits .or .u8 ((u : Int) % 256) 128)] 5)))
      have HL := Lib.hid ho.lt
      go_wp2_with (at_builtin; refine wpList_append_oneY rfl _ _ 111 rfl xb 5 i0 (.int .u8 0) 1 Tryz.underlying111 hi hz0 hz1 hz2 rfl _ _ _ rfl hoa _ 1 (.int .u8 (bits .or .u8 ((u : Int) % 256) 128)) rfl ?c1 ?c2 rfl ?c3 ?c4 ?c5 ?_)
      case c1 => exact cell_of_heap (heap_alloc (w := wr) _) 0
      case c2 => rfl
      case c3 => unfold maxLen; omega
      case c4 => omega
      case c5 => simp; omega
      intro v' w2 hown2 hg2
      have hu2 := (hu.alloc (.cells #[.int .u8 (bits .or .u8 ((u : Int) % 256) 128)] 5)).of_grown hg2 (by intro j hj hj2; have := (HL.out j hj).1; have := HXB.out; omega)
      rw [or128] at hown2
      have ho2 : ownsY w2 xb 5 v' (acc ++ [u % 128 + 128]).length (u8s (acc ++ [u % 128 + 128])) := by
        unfold u8s at hown2 ⊢
        rw [List.length_append, List.map_append]
        exact hown2
      clear ho hu hg2 hown2 hoa
      go_wp2_with fail
      exact ⟨⟨u / 128, acc ++ [u % 128 + 128], by go_num, by omega, ho2, HACC2, hu2⟩, by simp [intOf]; omega⟩
    · have hbi : ¬ (128 : Int) ≤ (u : Int) := by omega
      have hsm : (u : Int) % 256 = (u : Int) := by omega
      have hoa := (ho.upd ((Upd.refl (fun _ => False) wr).alloc (.cells #[.int .u8 (u : Int)] 5)))
      have HL := Lib.hid ho.lt
      go_wp2_with (at_builtin; refine wpList_append_oneY rfl _ _ 111 rfl xb 5 i0 (.int .u8 0) 1 Tryz.underlying111 hi hz0 hz1 hz2 rfl _ _ _ rfl hoa _ 1 (.int .u8 (u : Int)) rfl ?c1 ?c2 rfl ?c3 ?c4 ?c5 ?_)
      case c3 => unfold maxLen; omega
      case c4 => omega
      case c5 => omega
      intro v' w2 hown2 hg2
      have hu2 := (hu.alloc (.cells #[.int .u8 (u : Int)] 5)).of_grown hg2 (by intro j hj hj2; have := (HL.out j hj).1; have := HXB.out; omega)
      have hfin : (acc ++ [u]) = nums b ++ num v := by
        rw [← HACC.out, num_small (by omega)]
      have hin : IntsAt .u8 w2 v' ((acc ++ [u]).map fun b : Nat => (b : Int)) := by
        have h5 := hown2.row
        have h6 : ((acc ++ [u]).map fun b : Nat => (b : Int)).length = acc.length + 1 := by simp
        have h7 : ((acc ++ [u]).map fun b : Nat => (b : Int)).map (Value.int .u8) = u8s acc ++ [Value.int .u8 (u : Int)] := by
          unfold u8s
          rw [List.map_map, List.map_append]
          rfl
        unfold IntsAt
        rw [h6, h7]
        exact h5
      rw [hfin] at hin
      have hcv2 := convert_ints (P := Tryz.prog) hin 111 9 5 Tryz.underlying111 Tryz.underlying5 Tryz.underlying9
      rw [str_u8, str_append, str_nums] at hcv2
      clear ho hu hg2 hown2 hoa hin hfin
      go_wp2_with fail
      go_ret
      exact ⟨rfl, hu2⟩
end Go.Proofs.YtgkegfgdpekehaaGreat
/- The walks of PutText, and of the reference's Number, Text, PutNumber, PutText. -/
namespace Go.Proofs.YtgkegfgdpekehaaGreat
open Go.RowKit Go.Acre
set_option maxRecDepth 100000 in
theorem put_text (b s : ByteArray) (w : World) (hb : b.size ≤ 1099511627776) (hs : s.size ≤ 1099511627776) : Calls Tryz.prog 57 #[.string b, .string s] w (PutPost b (txt s) w) := by
  have hn := num_ten (v := s.size) (by omega)
  have hadd : ∀ u : World, (Op.stringOp .add (b ++ str (num s.size)) s).run Tryz.prog u = .ok (.string (b ++ str (num s.size) ++ s)) u := fun u => run_string_add_sum u _ _ (by rw [ByteArray.size_append, str_size]; omega)
  have hnot : ¬ ((b ++ str (num s.size)).size + s.size > 9223372036854775807) := by rw [ByteArray.size_append, str_size]; omega
  have HT : Hid (b ++ str (num s.size) ++ s = b ++ txt s) := by show _ = _; unfold txt; rw [app_assoc]
  go_enter Tryz.func57, Tryz.ntmps57
  go_wp2_with fail
  refine (put_number b s.size _ hb (by omega)).mono ?_
  rintro e w' ⟨rfl, hu⟩
  generalize hx : b ++ str (num s.size) = x at *
  clear hx
  go_wp2_with fail
  go_ret
  exact ⟨by rw [HT.out]; rfl, hu⟩
theorem conv1 (w : World) (a : Int) : (convert 111 9 (.slice (some ⟨w.heap.size, 0, none⟩) 1 1)).run Tryz.prog (w.alloc (.cells #[.int .u8 a] 5)) = .ok (.string (strOfNums [a])) (w.alloc (.cells #[.int .u8 a] 5)) :=
  convert_ints (ints_alloc [a] (by simp)) 111 9 5 Tryz.underlying111 Tryz.underlying5 Tryz.underlying9
set_option maxHeartbeats 2000000 in
set_option maxRecDepth 100000 in
theorem rnumber_any (v : Nat) (w : World) (hv : v < 18446744073709551616) : Calls Tryz.prog 80 #[.int .u64 (v : Nat)] w (StrPost (str (num v)) w) := by
  have hc := conv1
  have hten := num_ten hv
  go_enter Tryz.func80, Tryz.ntmps80
  go_wp2_with fail
  go_loopw [0, 3] (fun x s wr => ∃ (u : Nat) (acc : List Nat), x = .int .u64 (u : Nat) ∧ u < 18446744073709551616 ∧ s = .string (str acc) ∧ Hid (acc ++ num u = num v) ∧ Upd (fun _ => False) w wr) (fun x _ _ => (intOf x).toNat)
  case atStart => exact ⟨v, [], rfl, hv, rfl, rfl, Upd.refl _ _⟩
  case round =>
    obtain ⟨u, acc, rfl, hu18, rfl, HACC, hu⟩ := hrel
    have hlen : (str acc).size ≤ 10 := by
      have h1 := congrArg List.length HACC.out
      rw [List.length_append] at h1
      rw [str_size]
      omega
    by_cases hbig : 128 ≤ u
    · have hbi : (128 : Int) ≤ (u : Int) := by omega
      have HACC2 : Hid ((acc ++ [u % 128 + 128]) ++ num (u / 128) = num v) := by
        show _ = _
        rw [← HACC.out, num_big hbig, List.append_assoc]
        rfl
      have hse : str acc ++ strOfNums [(u : Int) % 128 + 128] = str (acc ++ [u % 128 + 128]) := by
        rw [str_append]
        congr 1
      have hss : (strOfNums [(u : Int) % 128 + 128]).size = 1 := by simp [strOfNums_size]
      have hadd : ∀ w : World, (Op.stringOp .add (str acc) (strOfNums [(u : Int) % 128 + 128])).run Tryz.prog w = .ok (.string (str (acc ++ [u % 128 + 128]))) w := fun w => by
        rw [← hse]
        exact run_string_add_sum w _ _ (by rw [hss]; omega)
      have hnot : ¬ ((str acc).size + (strOfNums [(u : Int) % 128 + 128]).size > 9223372036854775807) := by rw [hss]; omega
      clear hse hss
      go_wp2_with fail
      exact ⟨⟨u / 128, acc ++ [u % 128 + 128], by go_num, by omega, rfl, HACC2, hu.alloc _⟩, by simp [intOf]; omega⟩
    · have hbi : ¬ (128 : Int) ≤ (u : Int) := by omega
      have hsm : (u : Int) % 256 = (u : Int) := by omega
      have HFIN : Hid (str (acc ++ [u]) = str (num v)) := by
        show _ = _
        rw [← HACC.out, num_small (by omega)]
      have hse : str acc ++ strOfNums [(u : Int)] = str (acc ++ [u]) := by
        rw [str_append]
        congr 1
      have hss : (strOfNums [(u : Int)]).size = 1 := by simp [strOfNums_size]
      have hadd : ∀ w : World, (Op.stringOp .add (str acc) (strOfNums [(u : Int)])).run Tryz.prog w = .ok (.string (str (acc ++ [u]))) w := fun w => by
        rw [← hse]
        exact run_string_add_sum w _ _ (by rw [hss]; omega)
      have hnot : ¬ ((str acc).size + (strOfNums [(u : Int)]).size > 9223372036854775807) := by rw [hss]; omega
      clear hse hss
      go_wp2_with fail
      go_ret
      exact ⟨by rw [← HFIN.out]; rfl, hu.alloc _⟩
theorem rtext_any (s : ByteArray) (w : World) (hs : s.size ≤ 1099511627776) : Calls Tryz.prog 81 #[.string s] w (StrPost (txt s) w) := by
  have hn := num_ten (v := s.size) (by omega)
  have hadd : ∀ u : World, (Op.stringOp .add (str (num s.size)) s).run Tryz.prog u = .ok (.string (txt s)) u := fun u => run_string_add_sum u _ _ (by rw [str_size]; omega)
  have hnot : ¬ ((str (num s.size)).size + s.size > 9223372036854775807) := by rw [str_size]; omega
  go_enter Tryz.func81, Tryz.ntmps81
  go_wp2_with fail
  refine (rnumber_any s.size _ (by omega)).mono ?_
  rintro e w' ⟨rfl, hu⟩
  go_wp2_with fail
  go_ret
  exact ⟨rfl, hu⟩
theorem rput_number (b : ByteArray) (v : Nat) (w : World) (hb : b.size ≤ 1099511627776) (hv : v < 18446744073709551616) : Calls Tryz.prog 58 #[.string b, .int .u64 (v : Nat)] w (PutPost b (str (num v)) w) := by
  have hn := num_ten hv
  have hadd : ∀ u : World, (Op.stringOp .add b (str (num v))).run Tryz.prog u = .ok (.string (b ++ str (num v))) u := fun u => run_string_add_sum u _ _ (by rw [str_size]; omega)
  have hnot : ¬ (b.size + (str (num v)).size > 9223372036854775807) := by rw [str_size]; omega
  go_enter Tryz.func58, Tryz.ntmps58
  go_wp2_with fail
  refine (rnumber_any v _ hv).mono ?_
  rintro e w' ⟨rfl, hu⟩
  go_wp2_with fail
  go_ret
  exact ⟨rfl, hu⟩
theorem rput_int (b : ByteArray) (v : Nat) (w : World) (hb : b.size ≤ 1099511627776) (hv : v ≤ 9223372036854775807) : Calls Tryz.prog 59 #[.string b, .int .i64 (v : Nat)] w (PutPost b (str (num v)) w) := by
  go_enter Tryz.func59, Tryz.ntmps59
  go_wp2_with fail
  refine (rput_number b v _ hb (by omega)).mono ?_
  rintro e w' ⟨rfl, hu⟩
  go_wp2_with fail
  go_ret
  exact ⟨rfl, hu⟩
theorem rput_text (b s : ByteArray) (w : World) (hb : b.size ≤ 1099511627776) (hs : s.size ≤ 1099511627776) : Calls Tryz.prog 60 #[.string b, .string s] w (PutPost b (txt s) w) := by
  have hn := num_ten (v := s.size) (by omega)
  have hts : (txt s).size ≤ 1099511627786 := by unfold txt; rw [ByteArray.size_append, str_size]; omega
  have hadd : ∀ u : World, (Op.stringOp .add b (txt s)).run Tryz.prog u = .ok (.string (b ++ txt s)) u := fun u => run_string_add_sum u _ _ (by omega)
  have hnot : ¬ (b.size + (txt s).size > 9223372036854775807) := by omega
  go_enter Tryz.func60, Tryz.ntmps60
  go_wp2_with fail
  refine (rtext_any s _ hs).mono ?_
  rintro e w' ⟨rfl, hu⟩
  go_wp2_with fail
  go_ret
  exact ⟨rfl, hu⟩
end Go.Proofs.YtgkegfgdpekehaaGreat
/- The walk of number: what bytes begin with. -/
namespace Go.Proofs.YtgkegfgdpekehaaGreat
open Go.RowKit Go.Acre
def fN (r : Option (Nat × Nat)) : Nat := match r with | some p => p.1 | none => 0
def sN (r : Option (Nat × Nat)) : Nat := match r with | some p => p.2 | none => 0
def NumRet (r : Option (Nat × Nat)) (w : World) (e : Ending) (w' : World) : Prop :=
  e = .returned (.tuple #[.int .u64 (fN r : Nat), .int .i64 (sN r : Nat)]) ∧ w = w'
def lift (k acc : Nat) (r : Option (Nat × Nat)) : Option (Nat × Nat) := r.map fun p => (acc + 128 ^ k * p.1, p.2 + k)
theorem u64_or_nat (a b : Nat) (ha : a < 18446744073709551616) (hb : b < 18446744073709551616) : bits .or .u64 (a : Int) (b : Int) = ((a ||| b : Nat) : Int) := by
  have key : (BitVec.ofInt 64 (a : Int) ||| BitVec.ofInt 64 (b : Int)).toNat = a ||| b := by
    rw [BitVec.toNat_or, BitVec.toNat_ofInt, BitVec.toNat_ofInt]
    congr 1 <;> omega
  have h : a ||| b < 18446744073709551616 := Nat.or_lt_two_pow (n := 64) ha hb
  show IntKind.u64.wrap ((BitVec.ofInt 64 (a : Int) ||| BitVec.ofInt 64 (b : Int)).toNat : Nat) = _
  rw [key, IntKind.wrap_u64]
  omega
theorem pow7 (k : Nat) : 2 ^ (7 * k) = 128 ^ k := by rw [Nat.pow_mul]
theorem pow_small {k c : Nat} (hk : k ≤ 9) (hc : c < 128) (h9 : k = 9 → c ≤ 1) : 128 ^ k * c < 18446744073709551616 := by
  rcases (by omega : k = 0 ∨ k = 1 ∨ k = 2 ∨ k = 3 ∨ k = 4 ∨ k = 5 ∨ k = 6 ∨ k = 7 ∨ k = 8 ∨ k = 9) with rfl | rfl | rfl | rfl | rfl | rfl | rfl | rfl | rfl | rfl <;> simp <;> omega
theorem or_shift {acc k c : Nat} {x : Int} (hx : x = (c : Int)) (hk : k ≤ 9) (hc : c < 128) (h9 : k = 9 → c ≤ 1) (ha : acc < 128 ^ k) : bits .or .u64 (acc : Int) (IntKind.u64.wrap (x * 2 ^ (7 * k))) = ((acc + 128 ^ k * c : Nat) : Int) := by
  subst hx
  have h1 := pow_small hk hc h9
  have h2 : 128 ^ k ≤ 128 ^ 9 := Nat.pow_le_pow_right (by omega) hk
  have h3 : (c : Int) * 2 ^ (7 * k) = ((128 ^ k * c : Nat) : Int) := by
    rw [← pow7, Nat.mul_comm]
    push_cast
    first | rfl | exact Int.mul_comm _ _
  have h4 : IntKind.u64.wrap ((128 ^ k * c : Nat) : Int) = ((128 ^ k * c : Nat) : Int) := by rw [IntKind.wrap_u64]; omega
  have h5 : acc < 18446744073709551616 := by
    have : 128 ^ 9 = 9223372036854775808 := by decide
    omega
  rw [h3, h4, u64_or_nat _ _ h5 h1]
  congr 1
  rw [show acc ||| 128 ^ k * c = 128 ^ k * c ||| acc from Nat.or_comm _ _, ← pow7, or_add (7 * k) c acc (by rw [pow7]; exact ha), Nat.add_comm]
theorem decN_end {k c : Nat} {r : List Nat} (h : k = 9) (h2 : 1 < c) : decN k (c :: r) = none := by
  unfold decN
  rw [if_pos ⟨h, h2⟩]
theorem decN_bad {k c : Nat} {r : List Nat} (h : c = 0) (h2 : 0 < k) : decN k (c :: r) = none := by
  unfold decN
  rw [if_neg (by omega), if_neg (by omega), if_pos ⟨h, h2⟩]
theorem decN_last {k c : Nat} {r : List Nat} (h : k = 9 → c ≤ 1) (h2 : c < 128) (h3 : ¬ (c = 0 ∧ 0 < k)) : decN k (c :: r) = some (c, 1) := by
  unfold decN
  rw [if_neg (by omega), if_neg (by omega), if_neg h3]
theorem lift_last {k acc c : Nat} : lift k acc (some (c, 1)) = some (acc + 128 ^ k * c, k + 1) := by
  unfold lift
  simp [Nat.add_comm]
theorem lift_more {k acc c : Nat} {r : List Nat} (h : k ≠ 9) (h2 : 128 ≤ c) : lift k acc (decN k (c :: r)) = lift (k + 1) (acc + 128 ^ k * (c - 128)) (decN (k + 1) r) := by
  have e : decN k (c :: r) = (match decN (k + 1) r with | some (v, n) => some (c - 128 + 128 * v, n + 1) | none => none) := by
    rw [decN, if_neg (fun e => h e.1), if_pos h2]
    rfl
  rw [e]
  clear e
  unfold lift
  generalize decN (k + 1) r = q
  cases q with
  | none => simp only [Option.map_none]
  | some p =>
    obtain ⟨v, n⟩ := p
    simp only [Option.map_some, Option.some.injEq, Prod.mk.injEq]
    refine ⟨?_, by rw [Nat.add_assoc, Nat.add_comm 1 k]⟩
    rw [Nat.mul_add, Nat.pow_succ, Nat.mul_assoc, Nat.add_assoc]
theorem acc_more {k acc c : Nat} (ha : acc < 128 ^ k) (hc : c < 128) : acc + 128 ^ k * c < 128 ^ (k + 1) := by
  rw [Nat.pow_succ]
  have : 128 ^ k * c ≤ 128 ^ k * 127 := Nat.mul_le_mul_left _ (by omega)
  omega
theorem lift_zero (s : ByteArray) : numB s = lift 0 0 (decN 0 ((nums s).drop 0)) := by
  unfold numB numAt lift
  rw [List.drop_zero]
  cases decN 0 (nums s) with
  | none => rfl
  | some p =>
    obtain ⟨a, b⟩ := p
    simp
set_option maxHeartbeats 2000000 in
set_option maxRecDepth 100000 in
theorem number_any (s : ByteArray) (w : World) (hs : s.size ≤ 9223372036854775807) : Calls Tryz.prog 70 #[.string s] w (NumRet (numB s) w) := by
  go_enter Tryz.func70, Tryz.ntmps70
  go_wp2_with fail
  refine wp_scope_once 0 rfl ?_
  go_wp2_with fail
  refine wp_label ?_
  go_wp2_with fail
  go_loopw [4, 9] (fun v i wr => ∃ (k acc : Nat), i = .int .i64 k ∧ v = .int .u64 (acc : Nat) ∧ k ≤ s.size ∧ k ≤ 9 ∧ acc < 128 ^ k ∧ Hid (numB s = lift k acc (decN k ((nums s).drop k))) ∧ w = wr) (fun _ i _ => s.size - (intOf i).toNat)
  case atStart => exact ⟨0, 0, rfl, rfl, by omega, by omega, by decide, lift_zero s, rfl⟩
  case round =>
    obtain ⟨k, acc, rfl, rfl, hk, hk9, hacc, HR, rfl⟩ := hrel
    by_cases hlt : k < s.size
    · have hlti : (k : Int) < (s.size : Int) := by omega
      have hck : (nums s).drop k = s[k].toNat :: (nums s).drop (k + 1) := by
        rw [List.drop_eq_getElem_cons (by rw [nums_length]; exact hlt), nums_get s k hlt]
      rw [hck] at HR
      have hc256 : s[k].toNat < 256 := s[k].toNat_lt
      have HCK := Lib.hid hck
      clear hck
      go_wp2_with fail
      · have hN : numB s = none := by rw [HR.out, decN_end (by omega) (by omega)]; rfl
        rw [Exit.jump_ret]
        go_ret2
        exact ⟨by rw [hN]; rfl, rfl⟩
      · have hN : numB s = none := by rw [HR.out, decN_bad (by omega) (by omega)]; rfl
        rw [Exit.jump_ret]
        go_ret2
        exact ⟨by rw [hN]; rfl, rfl⟩
      · have hN : numB s = some (acc + 128 ^ k * s[k].toNat, k + 1) := by rw [HR.out, decN_last (by omega) (by omega) (by omega), lift_last]
        have e9 : k = 9 := by omega
        have ev := or_shift (c := s[k].toNat) rfl hk9 (by omega) (by omega) hacc
        have ew : ∀ c : Nat, c ≤ 1 → IntKind.u64.wrap ((c : Int) * 2 ^ (7 * k)) = (c : Int) * 9223372036854775808 := by
          intro c hc
          have e2 : (2 : Int) ^ (7 * 9) = 9223372036854775808 := by decide
          rw [e9, e2, IntKind.wrap_u64]
          omega
        rw [ew _ (by omega)] at ev
        have ek : (10 : Int) = ((k + 1 : Nat) : Int) := by omega
        rw [Exit.jump_ret]
        go_ret2
        exact ⟨by rw [hN, ev, ek]; rfl, rfl⟩
      · have hk8 : k ≠ 9 := by omega
        have hc1 : 128 ≤ s[k].toNat := by omega
        have hR := HR.out
        rw [lift_more hk8 hc1] at hR
        exact ⟨⟨k + 1, acc + 128 ^ k * (s[k].toNat - 128), by go_num, by rw [or_shift (c := s[k].toNat - 128) (by omega) hk9 (by omega) (by omega) hacc], by omega, by omega, acc_more hacc (by omega), hR, trivial⟩, by simp [intOf]; omega⟩
      · have hN : numB s = none := by rw [HR.out, decN_bad (by omega) (by omega)]; rfl
        rw [Exit.jump_ret]
        go_ret2
        exact ⟨by rw [hN]; rfl, rfl⟩
      · have hN : numB s = some (acc + 128 ^ k * s[k].toNat, k + 1) := by rw [HR.out, decN_last (by omega) (by omega) (by omega), lift_last]
        have hc0 : s[k].toNat = 0 := by omega
        rw [hc0, Nat.mul_zero, Nat.add_zero] at hN
        have hacc1 : acc < 18446744073709551616 := by
          have h2 : 128 ^ k ≤ 128 ^ 9 := Nat.pow_le_pow_right (by omega) hk9
          have h3 : 128 ^ 9 = 9223372036854775808 := by decide
          omega
        have ev : bits .or .u64 (acc : Int) 0 = (acc : Int) := (u64_or_nat acc 0 hacc1 (by omega)).trans (by rw [Nat.or_zero])
        rw [Exit.jump_ret]
        go_ret2
        exact ⟨by rw [hN, ev]; rfl, rfl⟩
      · have hN : numB s = some (acc + 128 ^ k * s[k].toNat, k + 1) := by rw [HR.out, decN_last (by omega) (by omega) (by omega), lift_last]
        rw [Exit.jump_ret]
        go_ret2
        exact ⟨by rw [hN, or_shift rfl hk9 (by omega) (by omega) hacc]; rfl, rfl⟩
    · have hN : numB s = none := by
        rw [HR.out, List.drop_eq_nil_of_le (by rw [nums_length]; omega)]
        rfl
      have HN := Lib.hid hN
      clear hN
      go_wp2_with fail
      rw [Exit.jump_ret]
      go_ret2
      exact ⟨by rw [HN.out]; rfl, rfl⟩
end Go.Proofs.YtgkegfgdpekehaaGreat
