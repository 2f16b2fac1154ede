/-
  DrrServes: the walk.
-/
import Derived.Test.YtcpejmnmbioinaaDL
import Derived.Test.YtcpejmnmbioinaaDP
import Derived.Test.YtcpejmnmbioinaaDQ
namespace Go.Proofs.Ytcpejmnmbioinaa
open Go.RowKit
theorem Qs.serve_params (st : Qs) (c : Cl) (cr : Int) (r : List Cl) : (st.serve c cr r).1.clients = st.clients ∧ (st.serve c cr r).1.items = st.items ∧ (st.serve c cr r).1.quantum = st.quantum ∧ (st.serve c cr r).1.most = st.most := by
  unfold Qs.serve; split <;> simp
theorem Qs.next_params (st : Qs) : st.next.1.clients = st.clients ∧ st.next.1.items = st.items ∧ st.next.1.quantum = st.quantum ∧ st.next.1.most = st.most := by
  unfold Qs.next
  split
  · simp
  · split
    · exact Qs.serve_params _ _ _ _
    · split
      · exact Qs.serve_params _ _ _ _
      · split
        · simp
        · exact Qs.serve_params { st with ring := _ } _ _ _
theorem next_serv_calls (D : Nat → Prop) (w : World) (q : Nat) (st : Qs) (a n i : Int) (L : Nat) (qn mo : Int) (h : QS D w q st) (hD : ∀ k, w.heap.size ≤ k → D k) (hs : Serv st a n i L qn mo) :
    Calls Try.prog 13 #[.pointer (some ⟨q, 0, none⟩)] w fun r w' => ∃ c x, r = .returned (.tuple #[.int .i64 c, .int .i64 x, .bool true]) ∧ ((c = a ∧ x = 1000) ∨ Serv st.next.1 a n (i + 1) L qn mo) ∧ QS D w' q st.next.1 ∧ Fr D w w' := by
  refine (next_calls D w q st h hD).mono ?_
  rintro r w' ⟨rfl, h5, f5⟩
  obtain ⟨c, x, t1, t2⟩ := hs.next h.1 h5.1
  rw [t1]
  exact ⟨c, x, rfl, t2, h5, f5⟩
theorem IsInts.frB {w w' : World} {ao : Option Addr} {n cap : Nat} {l : List Int} {S : Nat → Prop} (h : IsInts w (.slice ao n cap) l) (hf : Fr S w w') (hS : ∀ k, inB ao k → ¬ S k) : IsInts w' (.slice ao n cap) l :=
  h.fr hf fun k hk => by
    cases ao with
    | none => simp [Value.ownBlock] at hk
    | some a => exact hS k ⟨a, rfl, by simpa [Value.ownBlock] using hk⟩
set_option maxRecDepth 100000 in
set_option maxHeartbeats 8000000 in
theorem DrrServes_walk (a0 a1 a2 a3 a5 a6 : Int) (a4 : Option Addr) (cap4 : Nat) (l : List ActV) (w : World) (hl : ActsAt w.heap.size w a4 l) (hcap : l.length ≤ cap4) (hmax : cap4 ≤ maxLen) :
    Calls Try.prog 4 #[.int .i64 a0, .int .i64 a1, .int .i64 a2, .int .i64 a3, .slice a4 l.length cap4, .int .i64 a5, .int .i64 a6] w fun e w' => e = .returned (.bool true) ∧ Fr (fun k => w.heap.size ≤ k) w w' := by
  suffices key : ∀ w0 B, w0 = w → B = w.heap.size → Calls Try.prog 4 #[.int .i64 a0, .int .i64 a1, .int .i64 a2, .int .i64 a3, .slice a4 l.length cap4, .int .i64 a5, .int .i64 a6] w fun e w' => e = .returned (.bool true) ∧ Fr (fun k => B ≤ k) w0 w' from key w _ rfl rfl
  intro w0 B hw0 hB
  rw [← hB] at hl
  have hf : Fr (fun k => B ≤ k) w0 w := by rw [hw0]; exact Fr.refl _ w
  have hsz : ∀ w', Fr (fun k => B ≤ k) w0 w' → B ≤ w'.heap.size := fun w' h => by have := h.size; rw [hw0, ← hB] at this; exact this
  have hl0 : ActsAt B w0 a4 l := by rw [hw0]; exact hl
  have HL := Ho.mk hl0; have HF := Ho.mk hf; have HSZ := Ho.mk hsz
  clear hl hl0 hf hsz hw0 hB
  obtain ⟨ln, hln⟩ : ∃ n, l.length = n := ⟨_, rfl⟩
  rw [hln] at hcap ⊢
  have HLN := Ho.mk hln
  clear hln
  go_enter Try.func4, Try.ntmps4
  go_wp2_with (fail)
  refine (awake_calls w).mono ?_
  rintro r w1 ⟨rfl, f1⟩
  have HF1 := Ho.mk (HF.out.trans (f1.mono (fun _ _ h => h.elim)))
  clear f1 HF
  go_wp2_with (fail)
  refine (shape_calls a0 a1 a2 a3 w1).mono ?_
  rintro r w' ⟨rfl, rfl⟩
  have e1 := pick_lo a2 40; have e2 := pick_hi a2 40 (by omega)
  have e3 := pick_lo a3 (1 + pick a2 40); have e4 := pick_hi a3 (1 + pick a2 40) (by omega)
  have e5 := pick_lo a0 8; have e6 := pick_hi a0 8 (by omega)
  have e7 := pick_lo a1 12; have e8 := pick_hi a1 12 (by omega)
  obtain ⟨qn, hqn⟩ : ∃ qn, 1 + pick a2 40 = qn := ⟨_, rfl⟩
  obtain ⟨mo, hmo⟩ : ∃ mo, 1 + pick a3 (1 + pick a2 40) = mo := ⟨_, rfl⟩
  obtain ⟨cl, hcl⟩ : ∃ cl, 1 + pick a0 8 = cl := ⟨_, rfl⟩
  obtain ⟨it, hit⟩ : ∃ it, 1 + pick a1 12 = it := ⟨_, rfl⟩
  have hmo1 : 1 ≤ mo := by omega
  have hmq : mo ≤ qn := by omega
  have hq40 : qn ≤ 40 := by omega
  have hc8 : 1 ≤ cl ∧ cl ≤ 8 := by omega
  have hi12 : 1 ≤ it ∧ it ≤ 12 := by omega
  rw [hmo, hqn, hcl, hit]
  have HC8 := Ho.mk hc8; have HI12 := Ho.mk hi12
  clear e1 e2 e3 e4 e5 e6 e7 e8 hqn hmo hcl hit hc8 hi12
  obtain ⟨wa, rfl⟩ : ∃ wa : World, wa = w' := ⟨_, rfl⟩
  have hsa := HSZ.out wa HF1.out
  have hnew := new_calls (fun k => B ≤ k) wa cl it qn mo (by have := HC8.out; omega) (by have := HI12.out; omega) (by omega) hmo1 (fun k hk => Nat.le_trans hsa hk)
  clear hsa
  go_wp2_with (fail)
  refine hnew.mono ?_
  clear hnew
  rintro r w3 ⟨q, rfl, hq0, hQ3, f3⟩
  have HQ3 := Ho.mk hQ3
  have HF3 := Ho.mk (HF1.out.trans (f3.mono (S' := fun k => B ≤ k) (fun _ _ h => h.elim)))
  have HST := Ho.mk (show (Qs.new cl it qn mo).quantum = qn ∧ (Qs.new cl it qn mo).most = mo ∧ (Qs.new cl it qn mo).items = it ∧ (Qs.new cl it qn mo).clients = cl from ⟨rfl, rfl, rfl, rfl⟩)
  clear hq0 hQ3 f3 HF1
  unfold Pt
  by_cases hl200 : 200 < ln
  · have hd : decide ((200 : Int) < (ln : Int)) = true := decide_eq_true (by omega)
    have hd' : decide (200 < ln) = true := decide_eq_true (by omega)
    go_wp2_with (fail)
    go_ret
    exact ⟨rfl, HF3.out⟩
  · have hd : decide ((200 : Int) < (ln : Int)) = false := decide_eq_false (by omega)
    have hd' : decide (200 < ln) = false := decide_eq_false (by omega)
    have hln200 : ln ≤ 200 := by omega
    go_wp2_with (fail)
    go_loopw [18] (fun si wr => ∃ (i : Nat) (st : Qs), i ≤ ln ∧ si = .int .i64 (i : Int) ∧ Ho (QS (fun k => B ≤ k) wr q st) ∧ Ho (st.quantum = qn ∧ st.most = mo ∧ st.items = it ∧ st.clients = cl) ∧ Ho (Fr (fun k => B ≤ k) w0 wr)) (fun si _ => ln - (intOf si).toNat)
    case atStart => exact ⟨0, _, by omega, rfl, HQ3, HST, HF3⟩
    case round =>
      obtain ⟨i, st, hi, rfl, HQ, HP, HFW⟩ := hrel
      clear HQ3 HF3 HST
      by_cases hlt : i < ln
      · obtain ⟨b, off, rfl, hbB, c0, c1, c2, c3⟩ := (HL.out.fr HFW.out (fun k hk h => by omega)) i (by rw [HLN.out]; exact hlt)
        generalize (l[i]'(by rw [HLN.out]; exact hlt)).kind = vk at *
        generalize (l[i]'(by rw [HLN.out]; exact hlt)).client = vc at *
        generalize (l[i]'(by rw [HLN.out]; exact hlt)).cost = vs at *
        generalize (l[i]'(by rw [HLN.out]; exact hlt)).item = vi at *
        have HBB := Ho.mk hbB
        clear hbB
        go_wp2_with (fail)
        have hnb := blk_new wr (.cells #[.int .i64 vk, .int .i64 vc, .int .i64 vs, .int .i64 vi] 37)
        have hnf := (Fr.refl nob wr).alloc (.cells #[.int .i64 vk, .int .i64 vc, .int .i64 vs, .int .i64 vi] 37)
        have hb1 := blk_cell hnb 1
        have hb2 := blk_cell hnb 2
        have HQ4 := Ho.mk (HQ.out.fr hnf (fun _ _ h => h))
        have HF4 := Ho.mk (HFW.out.trans (hnf.mono (fun _ _ h => h.elim)))
        obtain ⟨f, hf⟩ : ∃ f, wr.heap.size = f := ⟨_, rfl⟩
        rw [hf] at hb1 hb2
        try rw [hf]
        generalize wr.alloc (.cells #[.int .i64 vk, .int .i64 vc, .int .i64 vs, .int .i64 vi] 37) = w4 at *
        have b1 : w4.cell? ⟨f, 1, none⟩ = some (.int .i64 vc) := hb1
        have b2 : w4.cell? ⟨f, 2, none⟩ = some (.int .i64 vs) := hb2
        clear hnb hnf hb1 hb2 hf c0 c1 c2 c3
        have hpk := Pick_calls vk 7 w4 (by omega)
        generalize pick vk 7 = pk at *
        refine hpk.mono ?_
        clear hpk
        rintro r w' ⟨rfl, rfl⟩
        by_cases hp3 : pk < 3
        · have k1 : decide (pk < 3) = true := decide_eq_true hp3
          go_wp2_with (fail)
          have hD : ∀ k, w4.heap.size ≤ k → B ≤ k := fun k hk => Nat.le_trans (HSZ.out w4 HF4.out) hk
          refine (put_calls (fun k => B ≤ k) w4 q st vc vs i HQ4.out hD).mono ?_
          rintro r w5 ⟨rfl, h5, f5⟩
          have HQ5 := Ho.mk h5
          have HF5 := Ho.mk (HF4.out.trans f5)
          have HP5 := Ho.mk (show (st.put vc vs i).1.quantum = qn ∧ (st.put vc vs i).1.most = mo ∧ (st.put vc vs i).1.items = it ∧ (st.put vc vs i).1.clients = cl from by
            obtain ⟨p1, p2, p3, p4, _⟩ := st.put_params vc vs i
            exact ⟨p3.trans HP.out.1, p4.trans HP.out.2.1, p2.trans HP.out.2.2.1, p1.trans HP.out.2.2.2⟩)
          clear h5 f5 hD
          go_wp2_with (fail)
          go_roundw
          case rel => exact ⟨i + 1, _, by omega, by go_num, HQ5, HP5, HF5⟩
          case measure => simp [intOf]; omega
        · have k1 : decide (pk < 3) = false := decide_eq_false hp3
          go_wp2_with (fail)
          have hD : ∀ k, w4.heap.size ≤ k → B ≤ k := fun k hk => Nat.le_trans (HSZ.out w4 HF4.out) hk
          refine (next_calls (fun k => B ≤ k) w4 q st HQ4.out hD).mono ?_
          rintro r w5 ⟨rfl, h5, f5⟩
          have HQ5 := Ho.mk h5
          have HF5 := Ho.mk (HF4.out.trans f5)
          have HP5 := Ho.mk (show st.next.1.quantum = qn ∧ st.next.1.most = mo ∧ st.next.1.items = it ∧ st.next.1.clients = cl from by
            obtain ⟨p1, p2, p3, p4⟩ := st.next_params
            exact ⟨p3.trans HP.out.1, p4.trans HP.out.2.1, p2.trans HP.out.2.2.1, p1.trans HP.out.2.2.2⟩)
          clear h5 f5 hD
          go_wp2_with (fail)
          go_roundw
          case rel => exact ⟨i + 1, _, by omega, by go_num, HQ5, HP5, HF5⟩
          case measure => simp [intOf]; omega
      · obtain rfl : ln = i := by omega
        obtain ⟨wo, rfl⟩ : ∃ wo : World, wo = wr := ⟨_, rfl⟩
        have hof := ofn_calls (fun k => B ≤ k) wo q st a5 HQ.out
        obtain ⟨kk, hkk⟩ : ∃ kk : Nat, st.of a5 = (kk : Int) := by
          unfold Qs.of; split
          · exact ⟨_, rfl⟩
          · exact ⟨0, rfl⟩
        have hk64 : kk ≤ 64 := by
          have hwf := HQ.out.1
          have h1 := hkk
          unfold Qs.of at h1
          split at h1
          · rename_i c hc
            have h2 := (hwf.its c (List.mem_of_find?_eq_some hc)).2.1
            have := hwf.it.2; omega
          · omega
        rw [hkk] at hof
        have HKK := Ho.mk hkk
        clear hkk
        go_wp2_with (fail)
        refine hof.mono ?_
        clear hof
        rintro r w' ⟨rfl, rfl⟩
        go_wp2_with (fail)
        have hpk := Pick_calls a6 mo w' (by omega)
        have hplo := pick_lo a6 mo
        have hphi := pick_hi a6 mo hmo1
        obtain ⟨u, hu⟩ : ∃ u, 1 + pick a6 mo = u := ⟨_, rfl⟩
        have hwu : IntKind.i64.wrap (1 + pick a6 mo) = u := by rw [IntKind.wrap_i64]; omega
        generalize pick a6 mo = pv at *
        clear hplo hphi hu
        refine hpk.mono ?_
        clear hpk
        rintro r w5 ⟨rfl, rfl⟩
        go_wp2_with (fail)
        have hD : ∀ k, w'.heap.size ≤ k → B ≤ k := fun k hk => Nat.le_trans (HSZ.out w' HFW.out) hk
        have hput := put_calls (fun k => B ≤ k) w' q st a5 u 1000 HQ.out hD
        obtain ⟨e, he⟩ : ∃ e, (st.put a5 u 1000).2 = e := ⟨_, rfl⟩
        rw [he] at hput
        have HE := Ho.mk he
        clear he hD
        refine hput.mono ?_
        clear hput
        rintro r w6 ⟨rfl, h6, f6⟩
        have HQ6 := Ho.mk h6
        have HF6 := Ho.mk (HFW.out.trans f6)
        clear h6 f6
        by_cases he0 : e = 0
        · subst he0
          go_wp2_with (fail)
          obtain ⟨pre, y, hits, hprelen⟩ := put_last HQ.out.1 HE.out
          have hpk : (pre.length : Int) = (kk : Int) := hprelen.trans HKK.out
          obtain ⟨p1, p2, p3, p4, _⟩ := st.put_params a5 u 1000
          have hq6 : (st.put a5 u 1000).1.quantum = qn := p3.trans HP.out.1
          have hm6 : (st.put a5 u 1000).1.most = mo := p4.trans HP.out.2.1
          have hserv := serv_start HQ6.out.1 hits
          rw [hq6, hm6, hpk] at hserv
          have hLle : (st.put a5 u 1000).1.ring.length ≤ 8 := by
            have h1 := HQ6.out.1.len; have h2 := p1.trans HP.out.2.2.2; have h3 := HC8.out; omega
          have hL1 : 1 ≤ (st.put a5 u 1000).1.ring.length := by
            obtain ⟨z, hz, _⟩ := List.mem_map.1 (itsOf_mem hits); exact List.length_pos_of_mem hz
          generalize (st.put a5 u 1000).1 = st2 at *
          have hcl := clients_calls (fun k => B ≤ k) w6 q st2 HQ6.out
          have hnums : ∀ b ∈ st2.ring.map (·.n), b ∈ st2.ring.map (·.n) := fun _ h => h
          obtain ⟨L, hL⟩ : ∃ L, st2.ring.length = L := ⟨_, rfl⟩
          rw [hL] at hcl hserv hLle hL1
          have HSV := Ho.mk hserv; have HLL := Ho.mk hL
          clear hits hprelen hpk p1 p2 p3 p4 hq6 hm6 hserv hnums hL HE HKK HP
          refine hcl.mono ?_
          clear hcl
          rintro r w7 ⟨ao, cap, rfl, hown7, f7⟩
          have hnl : (st2.ring.map (·.n)).length = L := by rw [List.length_map, HLL.out]
          obtain ⟨nums, hnums⟩ : ∃ l, st2.ring.map (·.n) = l := ⟨_, rfl⟩
          rw [hnums] at hown7 hnl
          subst hnl
          have hint7 : IsInts w7 (.slice ao nums.length cap) nums := own_ints hown7
          have hao : ∀ k, inB ao k → w6.heap.size ≤ k := by
            rintro k ⟨a, ha, hk⟩
            exact own_new hown7 (k := k) (by rw [ha]; simp [Value.ownBlock, hk])
          have HQ7 := Ho.mk (show QS (fun k => B ≤ k ∧ ¬ inB ao k) w7 q st2 from (HQ6.out.weak (fun k hk hB => ⟨hB, fun h => by have := hao k h; omega⟩)).fr f7 (fun _ _ h => h))
          have HF7 := Ho.mk (HF6.out.trans (f7.mono (S' := fun k => B ≤ k) (fun _ _ h => h.elim)))
          have HI7 := Ho.mk hint7
          have haolt : ∀ k, inB ao k → k < w7.heap.size := by
            rintro k ⟨a, ha, hk⟩
            obtain ⟨cur, h1⟩ := own_blk hown7 (k := k) (by rw [ha]; simp [Value.ownBlock, hk])
            exact lt_of_blk h1
          have HAO := Ho.mk haolt
          clear hown7 f7 hint7 hao haolt hnums HQ6 HF6
          obtain ⟨n1, hn1⟩ : ∃ n1, ((kk : Int) + 1) * (nums.length : Int) = n1 := ⟨_, rfl⟩
          have hb1 : 0 ≤ n1 ∧ n1 ≤ 65 * 8 := by
            rw [← hn1]
            exact ⟨Int.mul_nonneg (by omega) (by omega), Int.mul_le_mul (by omega) (by omega) (by omega) (by omega)⟩
          obtain ⟨n2, hn2⟩ : ∃ n2, n1 * (qn + mo) = n2 := ⟨_, rfl⟩
          have hb2 : 0 ≤ n2 ∧ n2 ≤ 65 * 8 * 80 := by
            rw [← hn2]
            exact ⟨Int.mul_nonneg hb1.1 (by omega), Int.mul_le_mul hb1.2 (by omega) (by omega) (by omega)⟩
          have hwm1 : IntKind.i64.wrap (((kk : Int) + 1) * (nums.length : Int)) = n1 := by rw [hn1, IntKind.wrap_i64]; omega
          have hwm2 : IntKind.i64.wrap (n1 * (qn + mo)) = n2 := by rw [hn2, IntKind.wrap_i64]; omega
          have HSV2 := Ho.mk (show Serv st2 a5 n2 0 nums.length qn mo by have h := HSV.out; rw [hn1, hn2] at h; exact h)
          clear hn1 hn2 HSV
          go_wp2_with (fail)
          go_loopw [23] (fun si wr => ∃ (i : Nat) (st : Qs), (i : Int) ≤ n2 ∧ si = .int .i64 (i : Int) ∧ Ho (QS (fun k => B ≤ k ∧ ¬ inB ao k) wr q st) ∧ Ho (Serv st a5 n2 i nums.length qn mo) ∧ Ho (IsInts wr (.slice ao nums.length cap) nums) ∧ Ho (∀ k, inB ao k → k < wr.heap.size) ∧ Ho (Fr (fun k => B ≤ k) w0 wr)) (fun si _ => n2.toNat - (intOf si).toNat)
          case atStart => exact ⟨0, st2, by omega, rfl, HQ7, HSV2, HI7, HAO, HF7⟩
          case round =>
            obtain ⟨i, st3, hin, rfl, HQ, HS, HI, HAO3, HFW⟩ := hrel
            clear HQ7 HSV2 HI7 HAO HF7
            have hlt : (i : Int) < n2 := HS.out.lt HQ.out.1
            have kd : decide ((i : Int) < n2) = true := decide_eq_true hlt
            obtain ⟨wo, rfl⟩ : ∃ wo : World, wo = wr := ⟨_, rfl⟩
            by_cases hl0 : ln = 0
            case' pos =>
              have kz : decide ((0 : Int) < (ln : Int)) = false := decide_eq_false (by omega)
              have kz' : decide (0 < ln) = false := decide_eq_false (by omega)
              clear hl0
              go_wp2_with (fail)
              have HQx := HQ
              have HSx := HS
              have HIx := HI
              have HAOx := HAO3
              have HFx := HFW
              obtain ⟨stx, hstx⟩ : ∃ s, s = st3 := ⟨_, rfl⟩
              subst hstx
              obtain ⟨w4, hw4⟩ : ∃ w, w = wo := ⟨_, rfl⟩
              subst hw4
            case' neg =>
              have kz : decide ((0 : Int) < (ln : Int)) = true := decide_eq_true (by omega)
              have kz' : decide (0 < ln) = true := decide_eq_true (by omega)
              have hmod : i % ln < ln := Nat.mod_lt _ (by omega)
              have hlz : ((ln : Int) == 0) = false := by rw [beq_eq_false_iff_ne]; omega
              obtain ⟨b, off, rfl, hbB, c0, c1, c2, c3⟩ := (HL.out.fr HFW.out (fun k hk h => by omega)) (i % ln) (by rw [HLN.out]; exact hmod)
              generalize (l[i % ln]'(by rw [HLN.out]; exact hmod)).kind = vk at *
              generalize (l[i % ln]'(by rw [HLN.out]; exact hmod)).client = vc at *
              generalize (l[i % ln]'(by rw [HLN.out]; exact hmod)).cost = vs at *
              generalize (l[i % ln]'(by rw [HLN.out]; exact hmod)).item = vi at *
              have HBB := Ho.mk hbB
              clear hbB
              go_wp2_with (fail)
              have hnb := blk_new wo (.cells #[.int .i64 vk, .int .i64 vc, .int .i64 vs, .int .i64 vi] 37)
              have hnf := (Fr.refl nob wo).alloc (.cells #[.int .i64 vk, .int .i64 vc, .int .i64 vs, .int .i64 vi] 37)
              have hb1' := blk_cell hnb 1
              have hb2' := blk_cell hnb 2
              have HQ4 := Ho.mk (HQ.out.fr hnf (fun _ _ h => h))
              have HF4 := Ho.mk (HFW.out.trans (hnf.mono (S' := fun k => B ≤ k) (fun _ _ h => h.elim)))
              have HI4 := Ho.mk (HI.out.fr hnf (fun _ _ h => h))
              have HAO4 := Ho.mk (fun k hk => Nat.lt_of_lt_of_le (HAO3.out k hk) hnf.size)
              obtain ⟨f, hf⟩ : ∃ f, wo.heap.size = f := ⟨_, rfl⟩
              rw [hf] at hb1' hb2'
              try rw [hf]
              generalize wo.alloc (.cells #[.int .i64 vk, .int .i64 vc, .int .i64 vs, .int .i64 vi] 37) = w4 at *
              have b1 : w4.cell? ⟨f, 1, none⟩ = some (.int .i64 vc) := hb1'
              have b2 : w4.cell? ⟨f, 2, none⟩ = some (.int .i64 vs) := hb2'
              clear hnb hnf hb1' hb2' hf c0 c1 c2 c3 HQ HFW HI HAO3
              have hpk := Pick_calls vc (nums.length : Int) w4 (by omega)
              have j0 := pick_lo vc (nums.length : Int)
              have j1 := pick_hi vc (nums.length : Int) (by omega)
              obtain ⟨j, hj⟩ : ∃ j : Nat, pick vc (nums.length : Int) = (j : Int) := ⟨(pick vc (nums.length : Int)).toNat, by omega⟩
              rw [hj] at hpk j1
              have hjl : j < nums.length := by omega
              obtain ⟨ao', cap', hav, hint⟩ := HI4.out
              cases hav
              obtain ⟨tb, toff, rfl, ht⟩ := hint j hjl
              generalize nums[j] = cv at *
              clear j0 j1 hj hint
              refine hpk.mono ?_
              clear hpk
              rintro r w' ⟨rfl, rfl⟩
              have hwc : (cv = a5) ∨ ((cv ≠ a5) ∧ st3.of cv ≤ 0) ∨ ((cv ≠ a5) ∧ 0 < st3.of cv) := by
                by_cases h1 : cv = a5
                · exact .inl h1
                · by_cases h2 : 0 < st3.of cv
                  · exact .inr (.inr ⟨h1, h2⟩)
                  · exact .inr (.inl ⟨h1, by omega⟩)
              have hofc := ofn_calls (fun k => B ≤ k ∧ ¬ inB (some ⟨tb, toff, none⟩) k) w4 q st3 cv HQ4.out
              have hsome : 0 < st3.of cv → (st3.ring.find? (fun c => c.n == cv)).isSome = true := by
                unfold Qs.of; intro h
                cases hf : st3.ring.find? (fun c => c.n == cv) with
                | none => rw [hf] at h; simp at h
                | some c => rfl
              have HSOME := Ho.mk hsome
              clear hsome
              rcases hwc with h1 | ⟨h1, h2⟩ | ⟨h1, h2⟩
            case' refl.inl =>
              have k1 : (cv == a5) = true := by simp [h1]
              clear hofc
              go_wp2_with (fail)
              have HQx := HQ4
              have HSx := HS
              have HIx := HI4
              have HAOx := HAO4
              have HFx := HF4
              obtain ⟨stx, hstx⟩ : ∃ s, s = st3 := ⟨_, rfl⟩
              subst hstx
            case' refl.inr.inl =>
              have k1 : (cv == a5) = false := by rw [beq_eq_false_iff_ne]; exact h1
              obtain ⟨ov, hov⟩ : ∃ o, st3.of cv = o := ⟨_, rfl⟩
              rw [hov] at hofc h2
              have k2 : decide (0 < ov) = false := decide_eq_false (by omega)
              clear hov
              go_wp2_with (fail)
              refine hofc.mono ?_
              clear hofc
              rintro r w' ⟨rfl, rfl⟩
              obtain ⟨w4, rfl⟩ : ∃ w4 : World, w4 = w' := ⟨_, rfl⟩
              go_wp2_with (fail)
              have HQx := HQ4
              have HSx := HS
              have HIx := HI4
              have HAOx := HAO4
              have HFx := HF4
              obtain ⟨stx, hstx⟩ : ∃ s, s = st3 := ⟨_, rfl⟩
              subst hstx
            case' refl.inr.inr =>
              have k1 : (cv == a5) = false := by rw [beq_eq_false_iff_ne]; exact h1
              have hsm := HSOME.out h2
              have hsv := Serv.put (cost := vs) (x := 2000) HS.out h1 hsm
              have hput := put_calls (fun k => B ≤ k ∧ ¬ inB (some ⟨tb, toff, none⟩) k) w4 q st3 cv vs 2000 HQ4.out (fun k hk => ⟨Nat.le_trans (HSZ.out w4 HF4.out) hk, fun h => by have := HAO4.out k h; omega⟩)
              obtain ⟨ov, hov⟩ : ∃ o, st3.of cv = o := ⟨_, rfl⟩
              rw [hov] at hofc h2
              have k2 : decide (0 < ov) = true := decide_eq_true h2
              have HSx := Ho.mk hsv
              clear hov hsm hsv
              go_wp2_with (fail)
              refine hofc.mono ?_
              clear hofc
              rintro r w' ⟨rfl, rfl⟩
              go_wp2_with (fail)
              refine hput.mono ?_
              clear hput
              rintro r w5 ⟨rfl, h5, f5⟩
              have HQx := Ho.mk h5
              have HIx := Ho.mk (HI4.out.fr f5 (fun k hk h => h.2 ⟨⟨tb, toff, none⟩, rfl, by simpa [Value.ownBlock] using hk⟩))
              have HAOx := Ho.mk (fun k hk => Nat.lt_of_lt_of_le (HAO4.out k hk) f5.size)
              have HFx := Ho.mk (HF4.out.trans (f5.mono (S' := fun k => B ≤ k) (fun _ _ h => h.1)))
              clear h5 f5
              go_wp2_with (fail)
              generalize (st3.put cv vs 2000).1 = stx at *
              obtain ⟨w4, hw4⟩ : ∃ w, w = w5 := ⟨_, rfl⟩
              subst hw4
            all_goals
              have hnext := next_serv_calls _ w4 q stx a5 n2 i nums.length qn mo HQx.out (fun k hk => ⟨Nat.le_trans (HSZ.out w4 HFx.out) hk, fun h => by have := HAOx.out k h; omega⟩) HSx.out
              refine hnext.mono ?_
              clear hnext
              rintro r w5 ⟨c, x, rfl, t2, h5, f5⟩
              have HQ5 := Ho.mk h5
              have HF5 := Ho.mk (HFx.out.trans (f5.mono (S' := fun k => B ≤ k) (fun _ _ h => h.1)))
              have HI5 := Ho.mk (HIx.out.frB f5 (fun k hk h => h.2 hk))
              have HAO5 := Ho.mk (fun k hk => Nat.lt_of_lt_of_le (HAOx.out k hk) f5.size)
              clear h5 f5
              by_cases hd1 : c = a5 ∧ x = 1000
              · obtain ⟨rfl, rfl⟩ := hd1
                have k7 : (c == c) = true := by simp
                clear t2
                go_wp2_with (fail)
                go_ret
                exact ⟨rfl, HF5.out⟩
              · have HS5 := Ho.mk (t2.resolve_left hd1)
                clear t2
                by_cases hca : c = a5
                · have k7 : (c == a5) = true := by simp [hca]
                  have k8 : (x == 1000) = false := by rw [beq_eq_false_iff_ne]; exact fun h => hd1 ⟨hca, h⟩
                  go_wp2_with (fail)
                  go_roundw
                  case rel => first | exact ⟨i + 1, _, by omega, by go_num, HQ5, Ho.mk (by have h := HS5.out; simpa using h), HI5, HAO5, HF5⟩ | ((repeat apply Exists.intro); exact ⟨⟨i + 1, _, by omega, by go_num, HQ5, Ho.mk (by have h := HS5.out; simpa using h), HI5, HAO5, HF5⟩, rfl⟩)
                  case measure => simp [intOf]; omega
                · have k7 : (c == a5) = false := by rw [beq_eq_false_iff_ne]; exact hca
                  go_wp2_with (fail)
                  go_roundw
                  case rel => first | exact ⟨i + 1, _, by omega, by go_num, HQ5, Ho.mk (by have h := HS5.out; simpa using h), HI5, HAO5, HF5⟩ | ((repeat apply Exists.intro); exact ⟨⟨i + 1, _, by omega, by go_num, HQ5, Ho.mk (by have h := HS5.out; simpa using h), HI5, HAO5, HF5⟩, rfl⟩)
                  case measure => simp [intOf]; omega
        · have hb : (e == 0) = false := by rw [beq_eq_false_iff_ne]; exact he0
          go_wp2_with (fail)
          go_ret
          exact ⟨rfl, HF6.out⟩
end Go.Proofs.Ytcpejmnmbioinaa
