/-
  package sets: Check goes through the data.
-/
import Derived.Test.YtlbhfnjhhpcphaaCD
namespace Go.Proofs.Ytlbhfnjhhpcphaa
open Go.RowKit
/-- What stands in the map of those that were met. -/
def metF (l : List Bs) (d : Bs) : Option Value := if d ∈ l then some (.agg #[]) else none
theorem cell_lt {w : World} {b o : Nat} {v : Value} (h : w.cell? ⟨b, o, none⟩ = some v) : b < w.heap.size := by
  unfold World.cell? at h
  cases hh : w.heap[b]? with
  | none => simp [hh] at h
  | some x => exact lt_of_blk hh
theorem strKeys : KLaw Try.prog 9 (fun x : Bs => str x) := str_klaw Try.underlying9
theorem zeroU (w : World) : (zeroValue 108).run Try.prog w = .ok (.agg #[]) w := by
  kernel_rfl
theorem metF_zero (l : List Bs) (d : Bs) : (metF l d).getD (.agg #[]) = .agg #[] := by
  unfold metF; split <;> rfl
theorem ok_iff {s : CSet} (hh : ¬ headBad s) : s.ok ↔ (∀ d ∈ s.data, d.length ≤ 65535) ∧ s.data.Nodup := by
  unfold headBad at hh
  constructor
  · intro h; exact ⟨h.each, h.apart⟩
  · rintro ⟨h1, h2⟩
    refine ⟨?_, ?_, ?_, ?_, ?_, h1, h2⟩
    · exact Classical.byContradiction fun h => hh (.inl h)
    · exact Classical.byContradiction fun h => hh (.inr (.inl h))
    · exact Classical.byContradiction fun h => hh (.inr (.inr (.inl h)))
    · exact Classical.byContradiction fun h => hh (by omega)
    · exact Classical.byContradiction fun h => hh (by omega)
theorem not_ok_of_head {s : CSet} (h : headBad s) : ¬ s.ok := by
  intro ho
  unfold headBad at h
  have := ho.ttl; have := ho.len
  rcases h with h | h | h | h | h | h | h
  · exact h ho.name
  · exact h ho.typ
  · exact h ho.cls
  all_goals omega
set_option maxRecDepth 100000 in
set_option maxHeartbeats 4000000 in
theorem setsCheck_data_calls (s : CSet) (ao : Option Addr) (cap : Nat) (w : World) (hn : s.name.length ≤ 100000) (hok : ¬ headBad s) (hd : IsStrs w (.slice ao s.data.length cap) s.data) (e : Int) (he : (s.ok ∧ e = 0) ∨ (¬ s.ok ∧ e = 2)) :
    Calls Try.prog 34 #[.agg #[.string (mk s.name), .int .i64 s.typ, .int .i64 s.cls, .int .i64 s.ttl, .slice ao s.data.length cap]] w fun r w' => r = .returned (.int .i64 e) ∧ Fr nob w w' := by
  have hf := (Fr.refl nob w).alloc (.cells #[.string (mk s.name), .int .i64 s.typ, .int .i64 s.cls, .int .i64 s.ttl, .slice ao s.data.length cap] 24)
  have hck := Ho.mk (Check_calls s.name (w.alloc (.cells #[.string (mk s.name), .int .i64 s.typ, .int .i64 s.cls, .int .i64 s.ttl, .slice ao s.data.length cap] 24)) hn)
  have hnb := blk_new w (.cells #[.string (mk s.name), .int .i64 s.typ, .int .i64 s.cls, .int .i64 s.ttl, .slice ao s.data.length cap] 24)
  have HF := Ho.mk hf; have HNB := Ho.mk hnb; have HD := Ho.mk hd; have HE := Ho.mk he
  have hiff := ok_iff hok
  have HIFF := Ho.mk hiff
  unfold headBad at hok
  have q1 : ((labels s.name).2 != 0) = false := by
    have : (labels s.name).2 = 0 := Classical.byContradiction fun h => hok (.inl h)
    simp [this]
  have q2 : shortB s.typ = true := by unfold shortB; exact decide_eq_true (Classical.byContradiction fun h => hok (.inr (.inl h)))
  have q3 : shortB s.cls = true := by unfold shortB; exact decide_eq_true (Classical.byContradiction fun h => hok (.inr (.inr (.inl h))))
  have q4 : decide (s.ttl < 0) = false := decide_eq_false (by omega)
  have q5 : decide (2147483648 ≤ s.ttl) = false := decide_eq_false (by omega)
  obtain ⟨ln, hln⟩ : ∃ n, s.data.length = n := ⟨_, rfl⟩
  have HLN := Ho.mk hln
  rw [hln] at hck hf hnb HF HNB HD hok ⊢
  have q6 : decide ((ln : Int) < 1) = false := decide_eq_false (by omega)
  have q6' : decide (ln < 1) = false := decide_eq_false (by omega)
  have q7 : decide ((64 : Int) < (ln : Int)) = false := decide_eq_false (by omega)
  have q7' : decide (64 < ln) = false := decide_eq_false (by omega)
  have hl64 : ln ≤ 64 := by omega
  generalize (labels s.name).2 = ee at *
  clear hln hok hnb hf hd he hiff
  go_enter Try.func34, Try.ntmps34
  go_wp2_with (fail)
  refine hck.out.mono ?_
  clear hck
  rintro r w1 ⟨rfl, f1⟩
  have hb1 := f1.block _ _ HNB.out (fun h => h)
  have g1 : w1.cell? ⟨w.heap.size, 1, none⟩ = some (.int .i64 s.typ) := blk_cell hb1 1
  have g2 : w1.cell? ⟨w.heap.size, 2, none⟩ = some (.int .i64 s.cls) := blk_cell hb1 2
  have g3 : w1.cell? ⟨w.heap.size, 3, none⟩ = some (.int .i64 s.ttl) := blk_cell hb1 3
  have g4 : w1.cell? ⟨w.heap.size, 4, none⟩ = some (.slice ao ln cap) := blk_cell hb1 4
  have HF1 := Ho.mk (HF.out.trans f1)
  have hmm := @run_makeMap Try.prog
  have hfm := (Fr.refl nob w1).alloc (.map #[] 0)
  have g4' : (w1.alloc (.map #[] 0)).cell? ⟨w.heap.size, 4, none⟩ = some (.slice ao ln cap) := hfm.cell (fun h => h) g4
  have hm0 : MapF (fun x : Bs => str x) (w1.alloc (.map #[] 0)) w1.heap.size (metF []) := by
    have h := MapF.new (κ := Bs) (kv := fun x => str x) w1
    have e : metF [] = fun _ => none := by funext d; simp [metF]
    rw [e]; exact h
  have HM0 := Ho.mk hm0; have HF2 := Ho.mk (HF1.out.trans hfm)
  clear f1 hb1 hm0 hfm
  go_wp2_with (first | (go_at_call 58; refine (short_calls _ _).mono ?_; rintro r w2 ⟨rfl, rfl⟩))
  have HMP := Ho.mk HF1.out.size
  generalize hmp : w1.heap.size = mp at *
  have HD2 := Ho.mk (HD.out.same HF2.out)
  clear g1 g2 g3 g4 g4' q1 q2 q3 q4 q5 q6 q6' q7 q7' hmm hmp HF1 HF HNB
  generalize w1.alloc (.map #[] 0) = w2 at *
  go_loopw [53] (fun iv wr => ∃ k : Nat, k ≤ ln ∧ iv = .int .i64 (k : Int) ∧ Ho (MapF (fun x : Bs => str x) wr mp (metF (s.data.take k))) ∧ Ho (Fr (fun j => j = mp) w2 wr) ∧ Ho ((s.data.take k).Nodup ∧ ∀ d ∈ s.data.take k, d.length ≤ 65535)) (fun iv _ => ln - (intOf iv).toNat)
  case atStart => exact ⟨0, by omega, rfl, HM0, Ho.mk (Fr.refl _ _), ⟨by simp, by simp⟩⟩
  case round =>
    obtain ⟨k, hk, rfl, HM, HFR, HG⟩ := hrel
    by_cases hlt : k < ln
    · have hlt' : decide ((k : Int) < (ln : Int)) = true := decide_eq_true (by omega)
      have hlt'' : decide (k < ln) = true := decide_eq_true hlt
      have hkl : k < s.data.length := by rw [HLN.out]; exact hlt
      obtain ⟨a2, cap2, hv, hcell⟩ := HD.out
      obtain ⟨b0, off, hao, hc0⟩ := hcell k hkl
      injection hv with hv1 _ _
      subst hv1
      subst hao
      have hb0 := cell_lt hc0
      have hc1 : wr.cell? ⟨b0, off + k, none⟩ = some (str s.data[k]) := HFR.out.cell (fun h => by have := HMP.out; omega) (HF2.out.cell (fun h => h) hc0)
      have htk : s.data.take (k + 1) = s.data.take k ++ [s.data[k]] := List.take_succ_eq_append_getElem hkl
      have hmemk : s.data[k] ∈ s.data := List.getElem_mem hkl
      have hsub : ∃ R, s.data = s.data.take k ++ s.data[k] :: R := ⟨s.data.drop (k + 1), by rw [← List.drop_eq_getElem_cons hkl, List.take_append_drop]⟩
      generalize s.data[k] = d at *
      have hl := MapF.lookup (t := 107) strKeys Try.underlying107 zeroU HM.out d
      rw [metF_zero] at hl
      have hfu := (Fr.refl nob wr).alloc (.cells #[] 108)
      obtain ⟨o, hU, hm2⟩ := MapF.update (t := 107) strKeys Try.underlying107 (HM.out.fr hfu (fun h => h)) d (.agg #[])
      have hfr2 : Fr (fun j => j = mp) w2 { wr.alloc (.cells #[] 108) with heap := (wr.alloc (.cells #[] 108)).heap.setIfInBounds mp o } := (HFR.out.trans (hfu.mono (fun _ _ h => h.elim))).setObj (.inr rfl) o
      have hsize : (mk d).size = d.length := mk_size d
      unfold str at hc1 hl hU
      generalize mk d = t at *
      have HFR2 := Ho.mk hfr2; have HM2 := Ho.mk hm2; have HTK := Ho.mk htk; have HSUB := Ho.mk hsub; have HMEM := Ho.mk hmemk; have HSIZE := Ho.mk hsize
      clear hfu hfr2 hm2 hcell hc0 hb0 htk hsub hmemk hsize
      by_cases hin : d ∈ s.data.take k
      · have hm : (metF (s.data.take k) d).isSome = true := by unfold metF; rw [if_pos hin]; rfl
        rw [hm] at hl
        have he2 : e = 2 := by
          rcases HE.out with ⟨h1, _⟩ | ⟨_, h2⟩
          · exfalso
            obtain ⟨R, hR⟩ := HSUB.out
            have hnd := h1.apart
            rw [hR, List.nodup_append] at hnd
            exact hnd.2.2 d hin d (by simp) rfl
          · exact h2
        have HE2 := Ho.mk he2
        have HF3 := Ho.mk ((HF2.out.call HFR.out (fun j _ h => .inl (by have := HMP.out; omega))).alloc (.cells #[] 108))
        clear hm hin hU he2
        go_wp2_with (fail)
        go_ret
        rw [HE2.out]
        exact ⟨rfl, HF3.out⟩
      · have hm : (metF (s.data.take k) d).isSome = false := by unfold metF; rw [if_neg hin]; rfl
        rw [hm] at hl
        have HIN := Ho.mk hin
        by_cases hbig : 65535 < t.size
        · have d1 : decide ((65535 : Int) < (t.size : Int)) = true := decide_eq_true (by omega)
          have d1' : decide (65535 < t.size) = true := decide_eq_true hbig
          have he2 : e = 2 := by
            rcases HE.out with ⟨h1, _⟩ | ⟨_, h2⟩
            · exfalso
              have h3 := h1.each d HMEM.out
              have := HSIZE.out; omega
            · exact h2
          have HE2 := Ho.mk he2
          have HF3 := Ho.mk ((HF2.out.call HFR.out (fun j _ h => .inl (by have := HMP.out; omega))).alloc (.cells #[] 108))
          clear hm hin hU he2 hbig
          go_wp2_with (fail)
          go_ret
          rw [HE2.out]
          exact ⟨rfl, HF3.out⟩
        · have d1 : decide ((65535 : Int) < (t.size : Int)) = false := decide_eq_false (by omega)
          have d1' : decide (65535 < t.size) = false := decide_eq_false hbig
          have hm3 := HM2.out (metF (s.data.take (k + 1))) (by unfold metF; rw [if_pos (by rw [HTK.out]; simp)]) (fun y hy => by
            unfold metF
            rw [HTK.out]
            by_cases h1 : y ∈ s.data.take k
            · rw [if_pos (List.mem_append_left _ h1), if_pos h1]
            · rw [if_neg (by rw [List.mem_append, List.mem_singleton]; rintro (h | h); exact h1 h; exact hy h), if_neg h1])
          have HM3 := Ho.mk hm3
          have HG3 : Ho ((s.data.take (k + 1)).Nodup ∧ ∀ d ∈ s.data.take (k + 1), d.length ≤ 65535) := Ho.mk (by
            rw [HTK.out]
            refine ⟨?_, fun y hy => ?_⟩
            · rw [List.nodup_append]
              exact ⟨HG.out.1, by simp, fun a ha b hb e => by simp at hb; subst hb; subst e; exact HIN.out ha⟩
            · rcases List.mem_append.1 hy with h | h
              · exact HG.out.2 y h
              · simp at h; subst h; have := HSIZE.out; omega)
          clear hm hin hbig hm3
          go_wp2_with (fail)
          go_roundw
          case rel => exact ⟨k + 1, by omega, by go_num, HM3, HFR2, HG3⟩
          case measure => simp [intOf]; omega
    · obtain rfl : k = ln := by omega
      have hlt' : decide ((k : Int) < (k : Int)) = false := decide_eq_false (by omega)
      have he0 : e = 0 := by
        rcases HE.out with ⟨_, h2⟩ | ⟨h1, _⟩
        · exact h2
        · refine absurd (HIFF.out.2 ?_) h1
          have h3 := HG.out
          rw [List.take_of_length_le (by rw [HLN.out]; exact Nat.le_refl _)] at h3
          exact ⟨h3.2, h3.1⟩
      have HE0 := Ho.mk he0
      have HF3 := Ho.mk (HF2.out.call HFR.out (fun j _ h => .inl (by have := HMP.out; omega)))
      clear he0
      go_wp2_with (fail)
      go_ret
      rw [HE0.out]
      exact ⟨rfl, HF3.out⟩
/-- CHECK of a set. -/
theorem setsCheck_calls (s : CSet) (ao : Option Addr) (cap : Nat) (w : World) (hn : s.name.length ≤ 100000) (hd : IsStrs w (.slice ao s.data.length cap) s.data) :
    Calls Try.prog 34 #[.agg #[.string (mk s.name), .int .i64 s.typ, .int .i64 s.cls, .int .i64 s.ttl, .slice ao s.data.length cap]] w fun r w' => ∃ e, r = .returned (.int .i64 e) ∧ ((s.ok ∧ e = 0) ∨ (¬ s.ok ∧ e = 2)) ∧ Fr nob w w' := by
  by_cases hh : headBad s
  · exact (setsCheck_head_calls s ao cap w hn hh).mono fun r w' ⟨h1, h2⟩ => ⟨2, h1, .inr ⟨not_ok_of_head hh, rfl⟩, h2⟩
  · by_cases ho : s.ok
    · exact (setsCheck_data_calls s ao cap w hn hh hd 0 (.inl ⟨ho, rfl⟩)).mono fun r w' ⟨h1, h2⟩ => ⟨0, h1, .inl ⟨ho, rfl⟩, h2⟩
    · exact (setsCheck_data_calls s ao cap w hn hh hd 2 (.inr ⟨ho, rfl⟩)).mono fun r w' ⟨h1, h2⟩ => ⟨2, h1, .inr ⟨ho, rfl⟩, h2⟩
end Go.Proofs.Ytlbhfnjhhpcphaa
