/-
  package cache: Get.
-/
import Derived.Test.YtlbhfnjhhpcphaaCV
namespace Go.Proofs.Ytlbhfnjhhpcphaa
open Go.RowKit
theorem key_apart {A B : List ElC} {x : ElC} (h : ((A ++ x :: B).map (·.th.key)).Nodup) : (∀ y ∈ A, y.th.key ≠ x.th.key) ∧ ∀ y ∈ B, y.th.key ≠ x.th.key := by
  rw [List.map_append, List.map_cons] at h
  obtain ⟨_, h2, h3⟩ := List.nodup_append.1 h
  refine ⟨fun y hy e => h3 _ (List.mem_map_of_mem hy) _ (List.mem_cons_self ..) e, fun y hy e => ?_⟩
  exact (List.nodup_cons.1 h2).1 (by rw [← e]; exact List.mem_map_of_mem hy)
/-- use. -/
theorem use_calls (D : Nat → Prop) (w : World) (c bl mp : Nat) (A B : List ElC) (x : ElC) (st : Ca) (hw : st.wf) (h : CI D w c bl mp (A ++ x :: B) st) :
    Calls Try.prog 46 #[.pointer (some ⟨c, 0, none⟩), .agg #[.string (mk x.th.name), .int .i64 x.th.kind], thV x] w fun r w' => ∃ ao cap, r = .returned (fdV (x.th.found st.now) ao cap) ∧
      w'.ownsRow w.heap.size 9 1 (.slice ao (x.th.found st.now).set.data.length cap) (x.th.found st.now).set.data.length ((x.th.found st.now).set.data.map str) ∧
      CI D w' c bl mp (A ++ B ++ [x]) { st with L := outL st.L x.th.name x.th.kind ++ [x.th] } ∧ Fr (RingB bl ((A ++ x :: B).map valC)) w w' := by
  have hk := key_apart (keysE hw h.st)
  cases hst : x.th.st with
  | none =>
    have e : thV x = .iface 82 (.agg #[.int .i64 x.th.fin]) := by unfold thV; rw [hst]
    rw [e]
    exact use_none_calls D w c bl mp A B x st hw h hk.1 hk.2 hst
  | some p =>
    obtain ⟨s0, r0⟩ := p
    have e : thV x = .iface 84 (.agg #[.string (mk s0.name), .int .i64 s0.typ, .int .i64 s0.cls, .int .i64 s0.ttl, .slice x.ao s0.data.length x.cap, .int .i64 r0, .int .i64 x.th.fin]) := by unfold thV; rw [hst]; rfl
    rw [e]
    exact use_known_calls D w c bl mp A B x st hw h hk.1 hk.2 s0 r0 hst
theorem OwnC.perm {c bl mp : Nat} {A B : List ElC} {x : ElC} : ∀ k, OwnC c bl mp (A ++ B ++ [x]) k → OwnC c bl mp (A ++ x :: B) k := by
  intro k hk
  rcases hk with h | h | h | h
  · exact .inl h
  · exact .inr (.inl h)
  · exact .inr (.inr (.inl h))
  · exact .inr (.inr (.inr (by simp at h ⊢; rcases h with h | h | h <;> simp [h])))
theorem get_first {c : Ca} {n : Bs} {kind rank now : Int} {t : Th} (h : (labels n).2 = 0 ∧ timeOk now) (h1 : (c.to now).live (low n) kind = some t) (h2 : t.serves rank = true) : c.get n kind rank now = (c.to now).use t := by
  unfold Ca.get
  rw [if_neg (fun hn => hn h), h1]
  simp [Option.filter, h2]
theorem get_zero {c : Ca} {n : Bs} {kind rank now : Int} {t : Th} (h : (labels n).2 = 0 ∧ timeOk now) (h1 : ((c.to now).live (low n) kind).filter (·.serves rank) = none) (h2 : (c.to now).live (low n) 0 = some t) : c.get n kind rank now = (c.to now).use t := by
  unfold Ca.get
  rw [if_neg (fun hn => hn h), h1, h2]
theorem get_none {c : Ca} {n : Bs} {kind rank now : Int} (h : (labels n).2 = 0 ∧ timeOk now) (h1 : ((c.to now).live (low n) kind).filter (·.serves rank) = none) (h2 : (c.to now).live (low n) 0 = none) : c.get n kind rank now = (c.to now, Fd.zero) := by
  unfold Ca.get
  rw [if_neg (fun hn => hn h), h1, h2]
set_option maxRecDepth 100000 in
set_option maxHeartbeats 8000000 in
theorem get_good_calls (D : Nat → Prop) (w : World) (c bl mp : Nat) (E : List ElC) (st : Ca) (n : Bs) (kind rank now : Int) (hw : st.wf) (hC : CI D w c bl mp E st) (hn : n.length ≤ 100000) (hok : (labels n).2 = 0 ∧ timeOk now) :
    Calls Try.prog 15 #[.pointer (some ⟨c, 0, none⟩), .string (mk n), .int .i64 kind, .int .i64 rank, .int .i64 now] w fun r w' => (∃ ao cap, r = .returned (fdV (st.get n kind rank now).2 ao cap) ∧
      w'.ownsRow w.heap.size 9 1 (.slice ao (st.get n kind rank now).2.set.data.length cap) (st.get n kind rank now).2.set.data.length ((st.get n kind rank now).2.set.data.map str) ∧
      (∃ E', CI D w' c bl mp E' (st.get n kind rank now).1 ∧ ∀ k, OwnC c bl mp E' k → OwnC c bl mp E k) ∧ Fr (OwnC c bl mp E) w w') := by
  suffices H : ∀ Q : Ending → World → Prop, (∀ r w', (∃ ao cap, r = .returned (fdV (st.get n kind rank now).2 ao cap) ∧
      w'.ownsRow w.heap.size 9 1 (.slice ao (st.get n kind rank now).2.set.data.length cap) (st.get n kind rank now).2.set.data.length ((st.get n kind rank now).2.set.data.map str) ∧
      (∃ E', CI D w' c bl mp E' (st.get n kind rank now).1 ∧ ∀ k, OwnC c bl mp E' k → OwnC c bl mp E k) ∧ Fr (OwnC c bl mp E) w w') → Q r w') → Calls Try.prog 15 #[.pointer (some ⟨c, 0, none⟩), .string (mk n), .int .i64 kind, .int .i64 rank, .int .i64 now] w Q from H _ fun _ _ h => h
  intro Q hQ
  obtain ⟨res, hres⟩ : ∃ x, st.get n kind rank now = x := ⟨_, rfl⟩
  rw [hres] at hQ
  have HRES := Ho.mk hres
  clear hres
  have hf := (Fr.refl nob w).alloc (.cells #[.int .i64 0, .string ⟨#[]⟩, .int .i64 0, .int .i64 0, .int .i64 0, .slice none 0 0, .int .i64 0] 42)
  have hfb := blk_new w (.cells #[.int .i64 0, .string ⟨#[]⟩, .int .i64 0, .int .i64 0, .int .i64 0, .slice none 0 0, .int .i64 0] 42)
  have hC1 := hC.fr hf (fun _ _ h => h) (fun _ _ _ _ h => h)
  have HAB := Ho.mk (absent_calls c bl _ hC1.cells.2.2.1)
  have HCK := Ho.mk (Check_calls n (w.alloc (.cells #[.int .i64 0, .string ⟨#[]⟩, .int .i64 0, .int .i64 0, .int .i64 0, .slice none 0 0, .int .i64 0] 42)) hn)
  have HF := Ho.mk hf; have HFB := Ho.mk hfb; have HW := Ho.mk (hw.to hok.2); have HC := Ho.mk hC; have HQ := Ho.mk hQ; have HN := Ho.mk hok.1; have HT := Ho.mk hok.2; have HND := Ho.mk (keysE hw hC.st); have HLN := Ho.mk hn
  clear hf hfb hC1 hw hC hQ hok hn
  go_enter Try.func15, Try.ntmps15
  go_wp2_with (fail)
  refine HAB.out.mono ?_
  clear HAB
  rintro r w1 ⟨rfl, rfl⟩
  go_wp2_with (fail)
  refine HCK.out.mono ?_
  clear HCK
  rintro r w2 ⟨rfl, f2⟩
  have hF2 := HF.out.trans f2
  have hC2 := HC.out.fr hF2 (fun _ _ h => h) (fun _ _ _ _ h => h)
  have HF2 := Ho.mk hF2; have HB2 := Ho.mk (f2.block _ _ HFB.out (fun h => h)); have HC2 := Ho.mk hC2
  obtain ⟨c0, c1, c2, c3⟩ := hC2.cells
  have z1 : w2.frozen? ⟨c, 1, none⟩ = false := blk_free hC2.head 1
  have hw6 := within_calls now w2
  rw [decide_eq_true HT.out] at hw6
  have HW6 := Ho.mk hw6
  have hlab := HN.out
  rw [hlab]
  clear hw6 f2 hF2 hC2 c0 c2 c3 HF HFB hlab
  generalize hbx : w.heap.size = fb at *
  have HFBX := Ho.mk hbx
  clear hbx
  obtain ⟨nw, hnw⟩ : ∃ nw, (if st.now < now then now else st.now) = nw := ⟨_, rfl⟩
  have hmx : max st.now now = nw := by rw [← hnw]; split <;> omega
  have hto := HC2.out.to now
  rw [hmx] at hto
  have HTO := Ho.mk hto; have HMX := Ho.mk hmx
  clear hto hmx
  go_upto_region 4 with (first | (go_at_call 35; refine HW6.out.mono ?_; rintro r w3 ⟨rfl, rfl⟩))
  have HB3 := Ho.mk (show (w2.setCell ⟨c, 1, none⟩ (.int .i64 nw)).heap[fb]? = _ from blk_far HB2.out ⟨c, 1, none⟩ (fun e => by
    have h1 := HC2.out.head; have h2 := HB2.out
    have e' : fb = c := e
    rw [e', h1] at h2; simp at h2) _)
  have HF3 := Ho.mk ((HF2.out.mono (S' := OwnC c bl mp E) (fun _ _ h => h.elim)).trans ((setFr w2 c 1 (.int .i64 nw)).mono (fun k _ h => .inl h)))
  clear hnw HW6 z1 c1 HB2 HF2 HC2
  generalize w2.setCell ⟨c, 1, none⟩ (.int .i64 nw) = w3 at *
  have hlo := Lower_calls n w3 (by have := HLN.out; omega)
  go_wp2_with (fail)
  refine hlo.mono ?_
  clear hlo
  rintro r w4 ⟨rfl, f4⟩
  have hbk : ∀ (a : ByteArray) (W : World), (Instr.build 77 #[(0, .string a), (1, .int .i64 kind)]).run Try.prog W = .ok (.agg #[.string a, .int .i64 kind]) W := fun a W => by kernel_rfl
  have hf5 := f4.alloc (.cells #[.string (mk (low n)), .int .i64 kind] 77)
  have HK5 := Ho.mk (blk_new w4 (.cells #[.string (mk (low n)), .int .i64 kind] 77))
  have HB5 := Ho.mk (hf5.block _ _ HB3.out (fun h => h)); have HF5 := Ho.mk (HF3.out.trans (hf5.mono (fun _ _ h => h.elim))); have HC5 := Ho.mk (HTO.out.fr hf5 (fun _ _ h => h) (fun _ _ _ _ h => h))
  have HKN : Ho (fb ≤ w4.heap.size) := Ho.mk (by have h1 := HF3.out.size; have h2 := f4.size; have := HFBX.out; omega)
  clear f4 hf5 HB3 HF3 HTO
  go_upto_region 5 with (fail)
  generalize w4.alloc (.cells #[.string (mk (low n)), .int .i64 kind] 77) = w5 at *
  generalize w4.heap.size = kb at *
  have k0 : w5.cell? ⟨kb, 0, none⟩ = some (.string (mk (low n))) := blk_cell HK5.out 0
  have k1 : w5.cell? ⟨kb, 1, none⟩ = some (.int .i64 kind) := blk_cell HK5.out 1
  clear hbk
  go_wp2_with (fail)
  refine (live_calls D w5 c bl mp E (st.to now) (low n) kind HC5.out).mono ?_
  rintro r w6 ⟨hlive, f6⟩
  have HB6 := Ho.mk (f6.block _ _ HB5.out (fun h => h)); have HK6 := Ho.mk (f6.block _ _ HK5.out (fun h => h)); have HF6 := Ho.mk (HF5.out.trans (f6.mono (fun _ _ h => h.elim))); have HC6 := Ho.mk (HC5.out.fr f6 (fun _ _ h => h) (fun _ _ _ _ h => h))
  clear f6 k0 k1 HB5 HK5 HF5 HC5
  have k0 : w6.cell? ⟨kb, 0, none⟩ = some (.string (mk (low n))) := blk_cell HK6.out 0
  have k1 : w6.cell? ⟨kb, 1, none⟩ = some (.int .i64 kind) := blk_cell HK6.out 1
  rcases hlive with ⟨rfl, hl⟩ | ⟨A, x, B, hE, hkey, rfl, hl, hlt⟩
  case' inl =>
    have HFL : Ho (((st.to now).live (low n) kind).filter (·.serves rank) = none) := Ho.mk (by rw [hl]; rfl)
    clear hl
    go_upto_region 10 with (fail)
    generalize w6 = wj at *
  case' inr =>
    clear hlt
    by_cases hst : x.th.st = none
    case pos =>
      have HRS := Ho.mk (HRES.out.symm.trans (get_first (rank := rank) ⟨HN.out, HT.out⟩ hl (by unfold Th.serves; rw [hst])))
      have hthv : thV x = .iface 82 (.agg #[.int .i64 x.th.fin]) := by unfold thV; rw [hst]
      have HTV := Ho.mk hthv
      rw [hthv]
      have a1 := run_as_known_none (.agg #[.int .i64 x.th.fin])
      subst hE
      have hx1 : low n = x.th.name := by have := congrArg Prod.fst hkey; exact this.symm
      have hx2 : kind = x.th.kind := by have := congrArg Prod.snd hkey; exact this.symm
      have HX1 := Ho.mk hx1; have HX2 := Ho.mk hx2
      have hft := (Fr.refl nob w6).alloc (.cells #[.string ⟨#[]⟩, .int .i64 0, .int .i64 0, .int .i64 0, .slice none 0 0, .int .i64 0, .int .i64 0] 84)
      have HB7 := Ho.mk (hft.block _ _ HB6.out (fun h => h)); have HF7 := Ho.mk (HF6.out.trans (hft.mono (fun _ _ h => h.elim))); have HC7 := Ho.mk (HC6.out.fr hft (fun _ _ h => h) (fun _ _ _ _ h => h))
      have HK7 := Ho.mk (hft.block _ _ HK6.out (fun h => h))
      clear hkey hx1 hx2 hl hst hthv hft k0 k1
      go_upto_region 9 with (fail)
      generalize w6.alloc (.cells #[.string ⟨#[]⟩, .int .i64 0, .int .i64 0, .int .i64 0, .slice none 0 0, .int .i64 0, .int .i64 0] 84) = w7 at *
      have k0 : w7.cell? ⟨kb, 0, none⟩ = some (.string (mk (low n))) := blk_cell HK7.out 0
      have k1 : w7.cell? ⟨kb, 1, none⟩ = some (.int .i64 kind) := blk_cell HK7.out 1
      go_wp2_with (fail)
      rw [← HTV.out, HX1.out, HX2.out]
      refine (use_calls D w7 c bl mp A B x (st.to now) HW.out HC7.out).mono ?_
      rintro r w8 ⟨ao8, cap8, rfl, ho8, hc8, f8⟩
      have HB8 := Ho.mk (f8.block _ _ HB7.out (fun hk => HC7.out.typeNot HB7.out (by decide) (by decide) (by decide) (.inr (.inr hk))))
      have HF8 := Ho.mk (HF7.out.trans (f8.mono (S' := OwnC c bl mp (A ++ x :: B)) (fun _ _ h => .inr (.inr h))))
      have HC8 := Ho.mk hc8; have HO8 := Ho.mk ho8; have HS8 := Ho.mk HF7.out.size
      clear hc8 ho8 f8
      obtain ⟨fdx, hfdx⟩ : ∃ f, x.th.found (st.to now).now = f := ⟨_, rfl⟩
      rw [hfdx] at HO8 ⊢
      have HFD := Ho.mk hfdx
      clear hfdx
      unfold fdV
      have f0 := blk_cell HB8.out 0
      have f1 := blk_cell HB8.out 1
      have f2 := blk_cell HB8.out 2
      have f3 := blk_cell HB8.out 3
      have f4 := blk_cell HB8.out 4
      have f5 := blk_cell HB8.out 5
      have f6 := blk_cell HB8.out 6
      have z0 := blk_free HB8.out 0
      have z1 := blk_free HB8.out 1
      have z2 := blk_free HB8.out 2
      have z3 := blk_free HB8.out 3
      have z4 := blk_free HB8.out 4
      have z5 := blk_free HB8.out 5
      have z6 := blk_free HB8.out 6
      go_wp2_with (fail)
      generalize h5 : World.setCell _ ⟨fb, 6, none⟩ (.int .i64 fdx.ttl) = w11
      have h5 : set7 w8 fb (.int .i64 fdx.kind) (.string (mk fdx.set.name)) (.int .i64 fdx.set.typ) (.int .i64 fdx.set.cls) (.int .i64 fdx.set.ttl) (.slice ao8 fdx.set.data.length cap8) (.int .i64 fdx.ttl) = w11 := h5
      have hb5 := set7_blk HB8.out (.int .i64 fdx.kind) (.string (mk fdx.set.name)) (.int .i64 fdx.set.typ) (.int .i64 fdx.set.cls) (.int .i64 fdx.set.ttl) (.slice ao8 fdx.set.data.length cap8) (.int .i64 fdx.ttl)
      have hf5 := set7_fr w8 fb (.int .i64 fdx.kind) (.string (mk fdx.set.name)) (.int .i64 fdx.set.typ) (.int .i64 fdx.set.cls) (.int .i64 fdx.set.ttl) (.slice ao8 fdx.set.data.length cap8) (.int .i64 fdx.ttl)
      rw [h5] at hb5 hf5
      refine bodyPost_ret (res_c rfl _ _ fb 42 _ (0, 0) _ rfl hb5 Try.underlying42 rfl (by kernel_rfl)) rfl ?_
      refine HQ.out _ _ ⟨ao8, cap8, ?_, ?_, ⟨A ++ B ++ [x], ?_, OwnC.perm⟩, HF8.out.call hf5 (fun i _ h => .inl (by rw [h, HFBX.out]; exact Nat.le_refl _))⟩
      · rw [HRS.out]; show _ = Ending.returned (fdV (x.th.found (st.to now).now) _ _); rw [HFD.out]; rfl
      · rw [HRS.out]; show World.ownsRow _ _ _ _ (.slice _ (x.th.found (st.to now).now).set.data.length _) (x.th.found (st.to now).now).set.data.length ((x.th.found (st.to now).now).set.data.map str); rw [HFD.out]
        exact row_fr (own_weak1 HO8.out (by have := HS8.out; have := HFBX.out; omega)) hf5 (fun k cur fz e _ hc => by subst e; rw [HB8.out] at hc; simp at hc)
      · rw [HRS.out]
        exact HC8.out.fr hf5 (fun k hk e => by subst e; exact HC8.out.typeNot HB8.out (by decide) (by decide) (by decide) hk) (fun k cur _ hc e => by subst e; rw [HB8.out] at hc; simp at hc)
    obtain ⟨⟨s0, r0⟩, hst⟩ := Option.ne_none_iff_exists'.1 hst
    have hthv : thV x = .iface 84 (.agg #[.string (mk s0.name), .int .i64 s0.typ, .int .i64 s0.cls, .int .i64 s0.ttl, .slice x.ao s0.data.length x.cap, .int .i64 r0, .int .i64 x.th.fin]) := by unfold thV; rw [hst]; rfl
    have HTV := Ho.mk hthv
    rw [hthv]
    have a1 := run_as_known_known (.agg #[.string (mk s0.name), .int .i64 s0.typ, .int .i64 s0.cls, .int .i64 s0.ttl, .slice x.ao s0.data.length x.cap, .int .i64 r0, .int .i64 x.th.fin])
    have hft := (Fr.refl nob w6).alloc (.cells #[.string (mk s0.name), .int .i64 s0.typ, .int .i64 s0.cls, .int .i64 s0.ttl, .slice x.ao s0.data.length x.cap, .int .i64 r0, .int .i64 x.th.fin] 84)
    have HB7 := Ho.mk (hft.block _ _ HB6.out (fun h => h)); have HF7 := Ho.mk (HF6.out.trans (hft.mono (fun _ _ h => h.elim))); have HC7 := Ho.mk (HC6.out.fr hft (fun _ _ h => h) (fun _ _ _ _ h => h)); have HK7 := Ho.mk (hft.block _ _ HK6.out (fun h => h))
    clear hthv hft k0 k1
    by_cases hr : rank ≤ r0
    case' pos =>
      have d1 : decide (rank ≤ r0) = true := decide_eq_true hr
      have HRS := Ho.mk (HRES.out.symm.trans (get_first (rank := rank) ⟨HN.out, HT.out⟩ hl (by unfold Th.serves; rw [hst]; exact d1)))
      subst hE
      have hx1 : low n = x.th.name := by have := congrArg Prod.fst hkey; exact this.symm
      have hx2 : kind = x.th.kind := by have := congrArg Prod.snd hkey; exact this.symm
      have HX1 := Ho.mk hx1; have HX2 := Ho.mk hx2
      clear hkey hx1 hx2 hl hst hr
      go_upto_region 9 with (fail)
      generalize w6.alloc (.cells #[.string (mk s0.name), .int .i64 s0.typ, .int .i64 s0.cls, .int .i64 s0.ttl, .slice x.ao s0.data.length x.cap, .int .i64 r0, .int .i64 x.th.fin] 84) = w7 at *
      have k0 : w7.cell? ⟨kb, 0, none⟩ = some (.string (mk (low n))) := blk_cell HK7.out 0
      have k1 : w7.cell? ⟨kb, 1, none⟩ = some (.int .i64 kind) := blk_cell HK7.out 1
      go_wp2_with (fail)
      rw [← HTV.out, HX1.out, HX2.out]
      refine (use_calls D w7 c bl mp A B x (st.to now) HW.out HC7.out).mono ?_
      rintro r w8 ⟨ao8, cap8, rfl, ho8, hc8, f8⟩
      have HB8 := Ho.mk (f8.block _ _ HB7.out (fun hk => HC7.out.typeNot HB7.out (by decide) (by decide) (by decide) (.inr (.inr hk))))
      have HF8 := Ho.mk (HF7.out.trans (f8.mono (S' := OwnC c bl mp (A ++ x :: B)) (fun _ _ h => .inr (.inr h))))
      have HC8 := Ho.mk hc8; have HO8 := Ho.mk ho8; have HS8 := Ho.mk HF7.out.size
      clear hc8 ho8 f8
      obtain ⟨fdx, hfdx⟩ : ∃ f, x.th.found (st.to now).now = f := ⟨_, rfl⟩
      rw [hfdx] at HO8 ⊢
      have HFD := Ho.mk hfdx
      clear hfdx
      unfold fdV
      have f0 := blk_cell HB8.out 0
      have f1 := blk_cell HB8.out 1
      have f2 := blk_cell HB8.out 2
      have f3 := blk_cell HB8.out 3
      have f4 := blk_cell HB8.out 4
      have f5 := blk_cell HB8.out 5
      have f6 := blk_cell HB8.out 6
      have z0 := blk_free HB8.out 0
      have z1 := blk_free HB8.out 1
      have z2 := blk_free HB8.out 2
      have z3 := blk_free HB8.out 3
      have z4 := blk_free HB8.out 4
      have z5 := blk_free HB8.out 5
      have z6 := blk_free HB8.out 6
      go_wp2_with (fail)
      generalize h5 : World.setCell _ ⟨fb, 6, none⟩ (.int .i64 fdx.ttl) = w11
      have h5 : set7 w8 fb (.int .i64 fdx.kind) (.string (mk fdx.set.name)) (.int .i64 fdx.set.typ) (.int .i64 fdx.set.cls) (.int .i64 fdx.set.ttl) (.slice ao8 fdx.set.data.length cap8) (.int .i64 fdx.ttl) = w11 := h5
      have hb5 := set7_blk HB8.out (.int .i64 fdx.kind) (.string (mk fdx.set.name)) (.int .i64 fdx.set.typ) (.int .i64 fdx.set.cls) (.int .i64 fdx.set.ttl) (.slice ao8 fdx.set.data.length cap8) (.int .i64 fdx.ttl)
      have hf5 := set7_fr w8 fb (.int .i64 fdx.kind) (.string (mk fdx.set.name)) (.int .i64 fdx.set.typ) (.int .i64 fdx.set.cls) (.int .i64 fdx.set.ttl) (.slice ao8 fdx.set.data.length cap8) (.int .i64 fdx.ttl)
      rw [h5] at hb5 hf5
      refine bodyPost_ret (res_c rfl _ _ fb 42 _ (0, 0) _ rfl hb5 Try.underlying42 rfl (by kernel_rfl)) rfl ?_
      refine HQ.out _ _ ⟨ao8, cap8, ?_, ?_, ⟨A ++ B ++ [x], ?_, OwnC.perm⟩, HF8.out.call hf5 (fun i _ h => .inl (by rw [h, HFBX.out]; exact Nat.le_refl _))⟩
      · rw [HRS.out]; show _ = Ending.returned (fdV (x.th.found (st.to now).now) _ _); rw [HFD.out]; rfl
      · rw [HRS.out]; show World.ownsRow _ _ _ _ (.slice _ (x.th.found (st.to now).now).set.data.length _) (x.th.found (st.to now).now).set.data.length ((x.th.found (st.to now).now).set.data.map str); rw [HFD.out]
        exact row_fr (own_weak1 HO8.out (by have := HS8.out; have := HFBX.out; omega)) hf5 (fun k cur fz e _ hc => by subst e; rw [HB8.out] at hc; simp at hc)
      · rw [HRS.out]
        exact HC8.out.fr hf5 (fun k hk e => by subst e; exact HC8.out.typeNot HB8.out (by decide) (by decide) (by decide) hk) (fun k cur _ hc e => by subst e; rw [HB8.out] at hc; simp at hc)
    have d1 : decide (rank ≤ r0) = false := decide_eq_false hr
    have HFL : Ho (((st.to now).live (low n) kind).filter (·.serves rank) = none) := Ho.mk (by rw [hl]; simp [Option.filter, Th.serves, hst, hr])
    clear hE hkey hl hst hr
    go_upto_region 10 with (fail)
    clear a1 d1
    clear HTV HB6 HK6 HF6 HC6
    have HB6 := HB7; have HK6 := HK7; have HF6 := HF7; have HC6 := HC7
    clear HB7 HK7 HF7 HC7
    generalize w6.alloc (.cells #[.string (mk s0.name), .int .i64 s0.typ, .int .i64 s0.cls, .int .i64 s0.ttl, .slice x.ao s0.data.length x.cap, .int .i64 r0, .int .i64 x.th.fin] 84) = wj at *
  all_goals
    have z1 : wj.frozen? ⟨kb, 1, none⟩ = false := blk_free HK6.out 1
    have k1 : wj.cell? ⟨kb, 1, none⟩ = some (.int .i64 kind) := blk_cell HK6.out 1
    go_upto_region 11 with (fail)
    have hst9 := setFr wj kb 1 (.int .i64 0)
    have hne : fb ≠ kb := fun e => by have h1 := HB6.out; rw [e, HK6.out] at h1; simp at h1
    have hkn : ¬ OwnC c bl mp E kb := HC6.out.typeNot HK6.out (by decide) (by decide) (by decide)
    have HC9 := Ho.mk (HC6.out.fr hst9 (fun k hk e => by subst e; exact hkn hk) (fun k cur _ hc e => by subst e; rw [HK6.out] at hc; simp at hc))
    have HB9 := Ho.mk (hst9.block _ _ HB6.out hne)
    have HF9 := Ho.mk (HF6.out.call hst9 (fun k _ h => .inl (by have := HKN.out; have := HFBX.out; omega)))
    have HK9 : Ho ((wj.setCell ⟨kb, 1, none⟩ (.int .i64 0)).heap[kb]? = some (.cells #[.string (mk (low n)), .int .i64 0] 77 (0, 0))) := Ho.mk (blk_set HK6.out 1 _)
    clear z1 k1 hst9 hne hkn HC6 HB6 HF6 HK6
    generalize wj.setCell ⟨kb, 1, none⟩ (.int .i64 0) = w9 at *
    have k0 : w9.cell? ⟨kb, 0, none⟩ = some (.string (mk (low n))) := blk_cell HK9.out 0
    have k1 : w9.cell? ⟨kb, 1, none⟩ = some (.int .i64 0) := blk_cell HK9.out 1
    go_wp2_with (fail)
    refine (live_calls D w9 c bl mp E (st.to now) (low n) 0 HC9.out).mono ?_
    rintro r w10 ⟨hlive, f10⟩
    have HB10 := Ho.mk (f10.block _ _ HB9.out (fun h => h)); have HK10 := Ho.mk (f10.block _ _ HK9.out (fun h => h)); have HF10 := Ho.mk (HF9.out.trans (f10.mono (fun _ _ h => h.elim))); have HC10 := Ho.mk (HC9.out.fr f10 (fun _ _ h => h) (fun _ _ _ _ h => h))
    clear f10 k0 k1 HB9 HK9 HF9 HC9
    rcases hlive with ⟨rfl, hl⟩ | ⟨A, x, B, hE, hkey, rfl, hl, hlt⟩
    · have HRS := Ho.mk (HRES.out.symm.trans (get_none (rank := rank) ⟨HN.out, HT.out⟩ HFL.out hl))
      have hbd := run_found_zero
      have f0 := blk_cell HB10.out 0
      have f1 := blk_cell HB10.out 1
      have f2 := blk_cell HB10.out 2
      have f3 := blk_cell HB10.out 3
      have f4 := blk_cell HB10.out 4
      have f5 := blk_cell HB10.out 5
      have f6 := blk_cell HB10.out 6
      have z0 := blk_free HB10.out 0
      have z1 := blk_free HB10.out 1
      have z2 := blk_free HB10.out 2
      have z3 := blk_free HB10.out 3
      have z4 := blk_free HB10.out 4
      have z5 := blk_free HB10.out 5
      have z6 := blk_free HB10.out 6
      clear hl
      go_wp2_with (fail)
      generalize h5 : World.setCell _ ⟨fb, 6, none⟩ (.int .i64 0) = w11
      have h5 : set7 w10 fb (.int .i64 0) (.string ⟨#[]⟩) (.int .i64 0) (.int .i64 0) (.int .i64 0) (.slice none 0 0) (.int .i64 0) = w11 := h5
      have hb5 := set7_blk HB10.out (.int .i64 0) (.string ⟨#[]⟩) (.int .i64 0) (.int .i64 0) (.int .i64 0) (.slice none 0 0) (.int .i64 0)
      have hf5 := set7_fr w10 fb (.int .i64 0) (.string ⟨#[]⟩) (.int .i64 0) (.int .i64 0) (.int .i64 0) (.slice none 0 0) (.int .i64 0)
      rw [h5] at hb5 hf5
      refine bodyPost_ret (res_c rfl _ _ fb 42 _ (0, 0) _ rfl hb5 Try.underlying42 rfl (by kernel_rfl)) rfl ?_
      refine HQ.out _ _ ⟨none, 0, ?_, ?_, ⟨E, ?_, fun _ h => h⟩, HF10.out.call hf5 (fun i _ h => .inl (by rw [h, HFBX.out]; exact Nat.le_refl _))⟩
      · rw [HRS.out]; rfl
      · rw [HRS.out]; exact World.ownsRow_nil _ _ _ _
      · rw [HRS.out]
        exact HC10.out.fr hf5 (fun k hk e => by subst e; exact HC10.out.typeNot HB10.out (by decide) (by decide) (by decide) hk) (fun k cur _ hc e => by subst e; rw [HB10.out] at hc; simp at hc)
    · have HRS := Ho.mk (HRES.out.symm.trans (get_zero (rank := rank) ⟨HN.out, HT.out⟩ HFL.out hl))
      subst hE
      have hx1 : low n = x.th.name := by have := congrArg Prod.fst hkey; exact this.symm
      have hx2 : (0 : Int) = x.th.kind := by have := congrArg Prod.snd hkey; exact this.symm
      have HX1 := Ho.mk hx1; have HX2 := Ho.mk hx2
      obtain ⟨T, v, hT⟩ := thV_shape x
      have HTV := Ho.mk hT
      rw [hT]
      clear hkey hx1 hx2 hl hlt hT
      have k0 : w10.cell? ⟨kb, 0, none⟩ = some (.string (mk (low n))) := blk_cell HK10.out 0
      have k1 : w10.cell? ⟨kb, 1, none⟩ = some (.int .i64 0) := blk_cell HK10.out 1
      go_wp2_with (fail)
      rw [← HTV.out, HX1.out]
      have hcall : ∀ Q : Ending → World → Prop, Calls Try.prog 46 #[.pointer (some ⟨c, 0, none⟩), .agg #[.string (mk x.th.name), .int .i64 x.th.kind], thV x] w10 Q → Calls Try.prog 46 #[.pointer (some ⟨c, 0, none⟩), .agg #[.string (mk x.th.name), .int .i64 0], thV x] w10 Q := fun Q h => by rw [HX2.out]; exact h
      refine hcall _ ?_
      clear hcall
      refine (use_calls D w10 c bl mp A B x (st.to now) HW.out HC10.out).mono ?_
      rintro r w8 ⟨ao8, cap8, rfl, ho8, hc8, f8⟩
      have HB8 := Ho.mk (f8.block _ _ HB10.out (fun hk => HC10.out.typeNot HB10.out (by decide) (by decide) (by decide) (.inr (.inr hk))))
      have HF8 := Ho.mk (HF10.out.trans (f8.mono (S' := OwnC c bl mp (A ++ x :: B)) (fun _ _ h => .inr (.inr h))))
      have HC8 := Ho.mk hc8; have HO8 := Ho.mk ho8; have HS8 := Ho.mk HF10.out.size
      clear hc8 ho8 f8
      obtain ⟨fdx, hfdx⟩ : ∃ f, x.th.found (st.to now).now = f := ⟨_, rfl⟩
      rw [hfdx] at HO8 ⊢
      have HFD := Ho.mk hfdx
      clear hfdx
      unfold fdV
      have f0 := blk_cell HB8.out 0
      have f1 := blk_cell HB8.out 1
      have f2 := blk_cell HB8.out 2
      have f3 := blk_cell HB8.out 3
      have f4 := blk_cell HB8.out 4
      have f5 := blk_cell HB8.out 5
      have f6 := blk_cell HB8.out 6
      have z0 := blk_free HB8.out 0
      have z1 := blk_free HB8.out 1
      have z2 := blk_free HB8.out 2
      have z3 := blk_free HB8.out 3
      have z4 := blk_free HB8.out 4
      have z5 := blk_free HB8.out 5
      have z6 := blk_free HB8.out 6
      go_wp2_with (fail)
      generalize h5 : World.setCell _ ⟨fb, 6, none⟩ (.int .i64 fdx.ttl) = w11
      have h5 : set7 w8 fb (.int .i64 fdx.kind) (.string (mk fdx.set.name)) (.int .i64 fdx.set.typ) (.int .i64 fdx.set.cls) (.int .i64 fdx.set.ttl) (.slice ao8 fdx.set.data.length cap8) (.int .i64 fdx.ttl) = w11 := h5
      have hb5 := set7_blk HB8.out (.int .i64 fdx.kind) (.string (mk fdx.set.name)) (.int .i64 fdx.set.typ) (.int .i64 fdx.set.cls) (.int .i64 fdx.set.ttl) (.slice ao8 fdx.set.data.length cap8) (.int .i64 fdx.ttl)
      have hf5 := set7_fr w8 fb (.int .i64 fdx.kind) (.string (mk fdx.set.name)) (.int .i64 fdx.set.typ) (.int .i64 fdx.set.cls) (.int .i64 fdx.set.ttl) (.slice ao8 fdx.set.data.length cap8) (.int .i64 fdx.ttl)
      rw [h5] at hb5 hf5
      refine bodyPost_ret (res_c rfl _ _ fb 42 _ (0, 0) _ rfl hb5 Try.underlying42 rfl (by kernel_rfl)) rfl ?_
      refine HQ.out _ _ ⟨ao8, cap8, ?_, ?_, ⟨A ++ B ++ [x], ?_, OwnC.perm⟩, HF8.out.call hf5 (fun i _ h => .inl (by rw [h, HFBX.out]; exact Nat.le_refl _))⟩
      · rw [HRS.out]; show _ = Ending.returned (fdV (x.th.found (st.to now).now) _ _); rw [HFD.out]; rfl
      · rw [HRS.out]; show World.ownsRow _ _ _ _ (.slice _ (x.th.found (st.to now).now).set.data.length _) (x.th.found (st.to now).now).set.data.length ((x.th.found (st.to now).now).set.data.map str); rw [HFD.out]
        exact row_fr (own_weak1 HO8.out (by have := HS8.out; have := HFBX.out; omega)) hf5 (fun k cur fz e _ hc => by subst e; rw [HB8.out] at hc; simp at hc)
      · rw [HRS.out]
        exact HC8.out.fr hf5 (fun k hk e => by subst e; exact HC8.out.typeNot HB8.out (by decide) (by decide) (by decide) hk) (fun k cur _ hc e => by subst e; rw [HB8.out] at hc; simp at hc)
end Go.Proofs.Ytlbhfnjhhpcphaa
