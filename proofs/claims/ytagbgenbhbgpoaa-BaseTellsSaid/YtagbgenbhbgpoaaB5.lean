/-
  ostiarykit's small functions; faulty, awake of chapter 11.
-/
import Derived.Test.YtagbgenbhbgpoaaB4
import Derived.Laws.BytesString
import Derived.Laws.IdiomStrings
import Derived.Lib.BufferRead
namespace Go.Proofs.Ytagbgenbhbgpoaa
open Go.RowKit
theorem addr_add (b off j : Nat) : (⟨b, off, none⟩ : Addr).add j = ⟨b, off + j, none⟩ := by
  unfold Addr.add; split
  · rename_i h; subst h; rfl
  · rfl
theorem conv_BS {B : Nat} {w : World} {v : Value} {l : List UInt8} (h : BS B w v l) : (convert 22 9 v).run Try.prog w = .ok (.string ⟨l.toArray⟩) w := by
  obtain ⟨a, cap, rfl, _, _, hc⟩ := h
  cases a with
  | none =>
    cases l with
    | nil => exact Lib.run_convert_nil_bytes w 22 9 5 cap Try.underlying22 Try.underlying5 Try.underlying9
    | cons x l => obtain ⟨b, off, h, _⟩ := hc 0 (by simp); cases h
  | some ad =>
    exact run_convert_bytes_back w 22 9 5 ad cap l Try.underlying22 Try.underlying5 Try.underlying9 (fun j hj => by
      obtain ⟨b, off, h, _, h2⟩ := hc j hj
      obtain rfl := Option.some.inj h
      rw [addr_add]; exact h2)
theorem BS.mono {B B' : Nat} {w : World} {v : Value} {l : List UInt8} (h : BS B w v l) (hB : B ≤ B') : BS B' w v l := by
  obtain ⟨a, cap, hv, hl, hn, hc⟩ := h
  exact ⟨a, cap, hv, hl, hn, fun i hi => by obtain ⟨b, off, h1, h2, h3⟩ := hc i hi; exact ⟨b, off, h1, by omega, h3⟩⟩
theorem cell_lt {w : World} {b o : Nat} {v : Value} (h : w.cell? ⟨b, o, none⟩ = some v) : b < w.heap.size := by
  rcases Nat.lt_or_ge b w.heap.size with h' | h'
  · exact h'
  · simp [World.cell?, Array.getElem?_eq_none h'] at h
/-- A cell of a block that is not turned. -/
theorem Fr.cell {S : Nat → Prop} {w w' : World} (h : Fr S w w') {b o : Nat} {v : Value} (hb : ¬ S b) (hc : w.cell? ⟨b, o, none⟩ = some v) : w'.cell? ⟨b, o, none⟩ = some v := by
  have hlt := cell_lt hc
  have hk := h.block b _ (Array.getElem?_eq_getElem hlt) hb
  unfold World.cell? at hc ⊢
  rw [hk]
  rw [Array.getElem?_eq_getElem hlt] at hc
  exact hc
/-- Bytes below B stay, if what is turned lies from B on. -/
theorem BS.fr {B : Nat} {S : Nat → Prop} {w w' : World} {v : Value} {l : List UInt8} (h : BS B w v l) (hf : Fr S w w') (hS : ∀ k, k < B → ¬ S k) : BS B w' v l := by
  obtain ⟨a, cap, hv, hl, hn, hc⟩ := h
  exact ⟨a, cap, hv, hl, hn, fun i hi => by obtain ⟨b, off, h1, h2, h3⟩ := hc i hi; exact ⟨b, off, h1, h2, hf.cell (hS b h2) h3⟩⟩
theorem own_BS {B : Nat} {w : World} {v : Value} {l : List UInt8} (h : w.ownsRow B 5 1 v l.length (Lib.byteCells l)) : BS w.heap.size w v l := by
  rcases h.2 with ⟨rfl, h0⟩ | ⟨g, cap, cur, rfl, hg, hh, hn, _, hsz, ht⟩
  · exact ⟨none, 0, by rw [h0], by omega, fun _ => rfl, fun i hi => by omega⟩
  · refine ⟨_, cap, rfl, hn, (fun h => by cases h), fun i hi => ⟨g, 0, rfl, lt_of_blk hh, ?_⟩⟩
    rw [blk_cell hh, Nat.zero_add]
    have h1 : (cur.toList.take (l.length * 1))[i]? = some (.int .u8 l[i].toNat) := by
      rw [ht]; simp [Lib.byteCells, hi]
    rw [List.getElem?_take] at h1
    split at h1
    · simpa using h1
    · cases h1
theorem BS_nil (B : Nat) (w : World) : BS B w (.slice none 0 0) [] := ⟨none, 0, rfl, Nat.le_refl _, fun _ => rfl, fun i hi => absurd hi (by simp)⟩
theorem BS_lit {w : World} {g : Nat} {l : List UInt8} (h : w.heap[g]? = some (.cells (Lib.byteCells l).toArray 5 (0, 0))) : BS w.heap.size w (.slice (some ⟨g, 0, none⟩) l.length l.length) l :=
  ⟨_, _, rfl, Nat.le_refl _, (fun h => by cases h), fun i hi => ⟨g, 0, rfl, lt_of_blk h, by rw [blk_cell h]; simp [Lib.byteCells, hi]⟩⟩
theorem SameBytes_calls (va vb : Value) (la lb : List UInt8) (B : Nat) (w : World) (ha : BS B w va la) (hb : BS B w vb lb) :
    Calls Try.prog 14 #[va, vb] w fun e w' => e = .returned (.bool (la == lb)) ∧ w = w' := by
  have h1 := conv_BS ha
  have h2 := conv_BS hb
  clear ha hb
  go_enter Try.func14, Try.ntmps14
  go_wp2
  go_ret
  exact ⟨rfl, rfl⟩
theorem tmod_neg {x n : Int} (hn : 0 < n) (h : x.tmod n < 0) : x.tmod n + n = x % n := by
  have h1 := Int.tmod_add_mul_tdiv x n
  have h2 := Int.lt_tmod_of_pos x hn
  have e : x = (x.tmod n + n) + n * (x.tdiv n - 1) := by rw [Int.mul_sub, Int.mul_one]; omega
  have e2 : ((x.tmod n + n) + n * (x.tdiv n - 1)) % n = x.tmod n + n := by
    rw [Int.add_mul_emod_self_left, Int.emod_eq_of_lt (by omega) (by omega)]
  rw [← e2, ← e]
theorem tmod_pos {x n : Int} (hn : 0 < n) (h : ¬ x.tmod n < 0) : x.tmod n = x % n := by
  have h1 := Int.tmod_add_mul_tdiv x n
  have h2 := Int.tmod_lt_of_pos x hn
  have e2 : (x.tmod n + n * (x.tdiv n)) % n = x.tmod n := by
    rw [Int.add_mul_emod_self_left, Int.emod_eq_of_lt (by omega) (by omega)]
  rw [← e2, h1]
def pick (x n : Int) : Int := if n < 1 then 0 else x % n
theorem Pick_calls (x n : Int) (w : World) (h3 : n < 2 ^ 62) :
    Calls Try.prog 18 #[.int .i64 x, .int .i64 n] w fun e w' => e = .returned (.int .i64 (pick x n)) ∧ w = w' := by
  by_cases hn : n < 1
  · have e : pick x n = 0 := by unfold pick; rw [if_pos hn]
    rw [e]; clear e
    go_enter Try.func18, Try.ntmps18
    go_wp2
    go_ret
    exact ⟨rfl, rfl⟩
  · have e : pick x n = x % n := by unfold pick; rw [if_neg hn]
    rw [e]; clear e
    have hn1 : 1 ≤ n := by omega
    clear hn
    have t1 : x.tmod n < n := Int.tmod_lt_of_pos x (by omega)
    have t2 : -n < x.tmod n := by
      have := Int.lt_tmod_of_pos x (show 0 < n by omega); omega
    have e2 : ¬ n = 0 := by omega
    by_cases ht : x.tmod n < 0
    · have E := Ho.mk (tmod_neg (show 0 < n by omega) ht)
      go_enter Try.func18, Try.ntmps18
      go_wp2
      go_ret
      exact ⟨by rw [← E.out]; rfl, rfl⟩
    · have E := Ho.mk (tmod_pos (show 0 < n by omega) ht)
      go_enter Try.func18, Try.ntmps18
      go_wp2
      go_ret
      exact ⟨by rw [← E.out]; rfl, rfl⟩
theorem own_shape {B : Nat} {e : TypeId} {v : Value} {n : Nat} {xs : List Value} {w : World} (h : w.ownsRow B e 1 v n xs) : ∃ ao cap, v = .slice ao n cap := by
  rcases h.2 with ⟨rfl, h0⟩ | ⟨g, cap, cur, rfl, _⟩
  · exact ⟨none, 0, by rw [h0]⟩
  · exact ⟨_, _, rfl⟩
/-- What Decode leaves, the slice written out. -/
def DecPost2 (r : List UInt8 × Int × Int) (w : World) (e : Ending) (w' : World) : Prop :=
  ∃ ao cap, e = .returned (.tuple #[.slice ao r.1.length cap, .agg #[.int .i64 r.2.1, .int .i64 r.2.2]]) ∧ w'.ownsRow w.heap.size 5 1 (.slice ao r.1.length cap) r.1.length (Lib.byteCells r.1) ∧ AllQ IsByte 5 w' (.slice ao r.1.length cap) ∧ Fr nob w w'
theorem Decode_calls2 (s : ByteArray) (w : World) (hs : s.size ≤ 100000) :
    Calls Try.prog 8 #[.string s] w (DecPost2 (dec s.data.toList) w) := by
  refine (Decode_calls s w hs).mono ?_
  rintro e w' ⟨v, rfl, ho, hQ, hF⟩
  obtain ⟨ao, cap, rfl⟩ := own_shape ho
  exact ⟨ao, cap, rfl, ho, hQ, hF⟩
set_option maxRecDepth 100000 in
theorem faulty_calls (s : ByteArray) (at_ : Int) (w : World) (hs : s.size ≤ 100000) (h : dec s.data.toList = ([], 4, at_)) :
    Calls Try.prog 20 #[.string s, .int .i64 at_] w fun e w' => e = .returned (.bool true) ∧ Fr nob w w' := by
  have hd := Decode_calls2 s w hs
  rw [h] at hd
  clear h
  have HD := Ho.mk hd; clear hd
  go_enter Try.func20, Try.ntmps20
  go_wp2_with (fail)
  refine HD.out.mono ?_
  rintro e w1 ⟨ao, cap, rfl, ho, _, hF⟩
  simp only [List.length_nil]
  clear ho
  go_wp2_with (fail)
  go_ret
  exact ⟨rfl, hF.alloc _⟩
theorem dec_AA : dec (⟨#[65, 65]⟩ : ByteArray).data.toList = ([0], 0, 0) := by decide
theorem dec_AB : dec (⟨#[65, 66]⟩ : ByteArray).data.toList = ([], 4, 1) := by decide
theorem enc_255 : enc [255, 255, 255] = [95, 95, 95, 95] := by decide
set_option maxRecDepth 100000 in
theorem awake_calls (w : World) :
    Calls Try.prog 17 #[] w fun e w' => e = .returned (.bool true) ∧ Fr nob w w' := by
  have hd := Decode_calls2 ⟨#[65, 65]⟩ w (by decide)
  rw [dec_AA] at hd
  have HD := Ho.mk hd; clear hd
  go_enter Try.func17, Try.ntmps17
  go_wp2_with (fail)
  refine HD.out.mono ?_
  rintro e w1 ⟨ao, cap, rfl, ho, _, hF⟩
  simp only [List.length_cons, List.length_nil, Nat.zero_add] at ho ⊢
  have hv : BS w1.heap.size w1 (.slice ao 1 cap) [0] := own_BS (l := [0]) ho
  clear ho
  have HV := Ho.mk hv; clear hv
  go_wp2_with (fail)
  have hb := fun W : World => fun (hW : W.heap[w1.heap.size + 1]? = some (.cells (Lib.byteCells [255, 255, 255]).toArray 5 (0, 0))) => Encode_calls _ [255, 255, 255] W (by decide) (BS_lit hW)
  rw [enc_255] at hb
  refine (hb _ (blk_new' (by simp))).mono ?_
  clear hb
  rintro e w2 ⟨rfl, hF2⟩
  have hfl : w2.heap[w1.heap.size]? = some (.cells #[.int .i64 0, .int .i64 0] 26 (0, 0)) := hF2.block _ _ (blk_old (blk_new _ _) _) id
  have q0 := blk_cell hfl 0
  have hF2' : Fr nob w w2 := ((hF.alloc _).alloc _).call hF2 (fun _ _ h => h.elim)
  have hV2 : BS w1.heap.size w2 (.slice ao 1 cap) [0] := HV.out.fr ((((Fr.refl nob w1).alloc _).alloc _).call hF2 (fun _ _ h => h.elim)) (fun _ _ h => h)
  have HV2 := Ho.mk hV2; clear hV2 hfl
  have hsz2 : w1.heap.size ≤ w2.heap.size := by have := hF2.size; simp at this; omega
  go_wp2_with (fail)
  have hs := fun W : World => fun (hW : W.heap[w2.heap.size]? = some (.cells (Lib.byteCells [0]).toArray 5 (0, 0))) (hV : BS w1.heap.size W (.slice ao 1 cap) [0]) (hz : w1.heap.size ≤ W.heap.size) => SameBytes_calls _ _ [0] [0] W.heap.size W (hV.mono hz) (BS_lit hW)
  refine (hs _ (blk_new _ _) (HV2.out.fr ((Fr.refl nob w2).alloc _) (fun _ _ h => h)) (by simp; omega)).mono ?_
  clear hs
  rintro e w3 ⟨rfl, rfl⟩
  go_wp2_with (fail)
  refine (faulty_calls ⟨#[65, 66]⟩ 1 _ (by decide) dec_AB).mono ?_
  rintro e w4 ⟨rfl, hF4⟩
  go_wp2
  go_ret
  exact ⟨rfl, (hF2'.alloc _).call hF4 (fun _ _ h => h.elim)⟩
end Go.Proofs.Ytagbgenbhbgpoaa
