/-
  package cache: PutSet.
-/
import Derived.Test.YtlbhfnjhhpcphaaCG
namespace Go.Proofs.Ytlbhfnjhhpcphaa
open Go.RowKit
theorem CI.to {D : Nat → Prop} {w : World} {c bl mp : Nat} {E : List ElC} {st : Ca} (h : CI D w c bl mp E st) (now : Int) : CI D (w.setCell ⟨c, 1, none⟩ (.int .i64 (max st.now now))) c bl mp E (st.to now) := by
  have hf : Fr (fun k => k = c) w (w.setCell ⟨c, 1, none⟩ (.int .i64 (max st.now now))) := (Fr.refl (fun k => k = c) w).set (p := ⟨c, 1, none⟩) (.inr rfl) _
  refine ⟨blk_set h.head 1 _, h.ring.fr hf (fun k hk e => h.cR (e ▸ hk)), h.map.fr hf (fun e => h.cm e.symm), fun x hx s r hs => ⟨((h.data x hx s r hs).1).fr hf (fun k cur _ hc e => by subst e; rw [h.head] at hc; simp at hc), (h.data x hx s r hs).2⟩, h.st⟩
theorem setFr (w : World) (r o : Nat) (v : Value) : Fr (fun k => k = r) w (w.setCell ⟨r, o, none⟩ v) := (Fr.refl (fun k => k = r) w).set (p := ⟨r, o, none⟩) (.inr rfl) v
theorem strs_set {w : World} {v : Value} {l : List Bs} {b o : Nat} {n : Int} (h : IsStrs w v l) (hc : w.cell? ⟨b, o, none⟩ = some (.int .i64 n)) (u : Value) : IsStrs (w.setCell ⟨b, o, none⟩ u) v l := by
  obtain ⟨a, cap, hv, hx⟩ := h
  refine ⟨a, cap, hv, fun i hi => ?_⟩
  obtain ⟨g, off, ha, h2⟩ := hx i hi
  refine ⟨g, off, ha, ?_⟩
  rw [cell_set_other _ _ _ _ _ (by
    rintro ⟨e1, e2⟩
    have e1 : b = g := e1
    have e2 : o = off + i := e2
    subst e1 e2
    rw [hc] at h2; simp [str] at h2)]
  exact h2
theorem CI.typeNot {D : Nat → Prop} {w : World} {c bl mp : Nat} {E : List ElC} {st : Ca} (h : CI D w c bl mp E st) {k : Nat} {cur : Array Value} {t : TypeId} {fr : Nat × Nat} (hk : w.heap[k]? = some (.cells cur t fr)) (h1 : t ≠ 34) (h2 : t ≠ 117) (h3 : t ≠ 115) : ¬ OwnC c bl mp E k := by
  rintro (rfl | rfl | rfl | hm)
  · rw [h.head] at hk; injection hk with hk; injection hk with _ e _; exact h1 e.symm
  · obtain ⟨_, _, kq, _⟩ := h.map; rw [kq] at hk; simp at hk
  · obtain ⟨_, _, kb⟩ := h.ring.root; rw [kb] at hk; injection hk with hk; injection hk with _ e _; exact h2 e.symm
  · obtain ⟨z, hz, rfl⟩ := List.mem_map.1 hm
    obtain ⟨_, _, k1⟩ := h.ring.node z hz; rw [k1] at hk; injection hk with hk; injection hk with _ e _; exact h3 e.symm
theorem CI.mem {D : Nat → Prop} {w : World} {c bl mp : Nat} {E : List ElC} {st : Ca} (h : CI D w c bl mp E st) {x : ElC} (hx : x ∈ E) : x.th ∈ st.L := by
  rw [h.st]; exact List.mem_map_of_mem hx
theorem run_as_none_nil (w : World) : (Instr.typeAssert .nilIface 79 82 true).run Try.prog w = .ok (.tuple #[.agg #[.int .i64 0], .bool false]) w := by
  kernel_rfl
theorem run_as_known_nil (w : World) : (Instr.typeAssert .nilIface 79 84 true).run Try.prog w = .ok (.tuple #[.agg #[.string ⟨#[]⟩, .int .i64 0, .int .i64 0, .int .i64 0, .slice none 0 0, .int .i64 0, .int .i64 0], .bool false]) w := by
  kernel_rfl
theorem run_as_none_none (v : Value) (w : World) : (Instr.typeAssert (.iface 82 v) 79 82 true).run Try.prog w = .ok (.tuple #[v, .bool true]) w := by
  kernel_rfl
theorem run_as_none_known (v : Value) (w : World) : (Instr.typeAssert (.iface 84 v) 79 82 true).run Try.prog w = .ok (.tuple #[.agg #[.int .i64 0], .bool false]) w := by
  kernel_rfl
theorem run_as_known_known (v : Value) (w : World) : (Instr.typeAssert (.iface 84 v) 79 84 true).run Try.prog w = .ok (.tuple #[v, .bool true]) w := by
  kernel_rfl
theorem run_as_known_none (v : Value) (w : World) : (Instr.typeAssert (.iface 82 v) 79 84 true).run Try.prog w = .ok (.tuple #[.agg #[.string ⟨#[]⟩, .int .i64 0, .int .i64 0, .int .i64 0, .slice none 0 0, .int .i64 0, .int .i64 0], .bool false]) w := by
  kernel_rfl
theorem run_build_known (a : ByteArray) (t c l : Int) (d : Value) (r n : Int) (hd : d.oneCell' = true := by rfl) (w : World) : (Instr.build 84 #[(0, .agg #[.string a, .int .i64 t, .int .i64 c, .int .i64 l, d]), (1, .int .i64 r), (2, .int .i64 n)]).run Try.prog w = .ok (.agg #[.string a, .int .i64 t, .int .i64 c, .int .i64 l, d, .int .i64 r, .int .i64 n]) w := by
  cases d <;> first | kernel_rfl | (simp [Value.oneCell'] at hd)
theorem row_set {w : World} {B : Nat} {e : TypeId} {s n : Nat} {v : Value} {xs : List Value} (h : w.ownsRow B e s v n xs) {k : Nat} {cs : Array Value} {t : TypeId} {fr : Nat × Nat} (hk : w.heap[k]? = some (.cells cs t fr)) (ht : t ≠ e) (o : Nat) (u : Value) : (w.setCell ⟨k, o, none⟩ u).ownsRow B e s v n xs := by
  obtain ⟨h0, h1⟩ := h
  refine ⟨h0, ?_⟩
  rcases h1 with h1 | ⟨g, cap, cur, rfl, hg, hh, r⟩
  · exact .inl h1
  · refine .inr ⟨g, cap, cur, rfl, hg, blk_far hh ⟨k, o, none⟩ (fun e2 => ?_) u, r⟩
    have e2 : g = k := e2
    subst e2
    rw [hk] at hh
    injection hh with hh
    injection hh with _ h2 _
    exact ht h2
theorem labels_len {n : Bs} (h : (labels n).2 = 0) : n.length ≤ 255 := by
  unfold labels at h
  split at h
  · simp at h
  · split at h
    · simp at h
    · omega
theorem Ca.wf.putSet {c : Ca} (h : c.wf) {s : CSet} {rank now : Int} (hp : putOk s rank now) : (c.putSet s rank now).1.wf := by
  have hto := h.to hp.time
  have hx : ∀ c2 : Ca, c2.wf → c2.now = (c.to now).now → ((c2.putT ⟨low s.name, s.typ, (c.to now).now + s.ttl, some (s, rank)⟩).wf ∨ s.ttl = 0) := fun c2 h2 h3 => by
    by_cases h0 : s.ttl = 0
    · exact .inr h0
    · left
      refine h2.putT ⟨⟨?_, ?_⟩, hp.set.typ, ?_, fun s' r' hs' => ?_⟩
      · have := hp.set.ttl; have := hto.now; show 1 ≤ (c.to now).now + s.ttl; omega
      · have := hp.set.ttl; rw [h3]; show (c.to now).now + s.ttl ≤ _; omega
      · rw [low_len]
        exact labels_len hp.set.name
      · injection hs' with hs'
        injection hs' with e1 e2
        subst e1 e2
        exact ⟨hp.set, rfl, rfl, hp.rank.1, hp.rank.2, hp.typ⟩
  unfold Ca.putSet
  rw [if_neg (fun hn => hn hp)]
  split
  · exact hto
  · rename_i h0
    split
    · exact hto
    · split
      · exact (hx _ hto rfl).resolve_right h0
      · exact (hx { c.to now with L := outL c.L (low s.name) 0 } (hto.sub List.filter_sublist) rfl).resolve_right h0
/-- PutSet goes on. -/
theorem putSet_ok {c : Ca} {s : CSet} {rank now : Int} (h : putOk s rank now) : c.putSet s rank now = if s.ttl = 0 then (c.to now, false, 0)
  else if rank < 3 ∧ ((c.to now).live (low s.name) s.typ).any (·.blocks rank) = true then (c.to now, false, 0)
  else ((if rank < 3 then c.to now else { c.to now with L := outL c.L (low s.name) 0 }).putT ⟨low s.name, s.typ, (c.to now).now + s.ttl, some (s, rank)⟩, true, 0) := by
  unfold Ca.putSet
  rw [if_neg (fun hn => hn h)]
set_option maxRecDepth 100000 in
set_option maxHeartbeats 8000000 in
theorem putSet_good_calls (D : Nat → Prop) (w : World) (c bl mp : Nat) (E : List ElC) (st : Ca) (s : CSet) (ao : Option Addr) (cap : Nat) (rank now : Int) (hw : st.wf) (hC : CI D w c bl mp E st) (hD : ∀ k, w.heap.size ≤ k → D k) (hn : s.name.length ≤ 100000) (hd : IsStrs w (.slice ao s.data.length cap) s.data) (hdn : ∀ k, (Value.slice ao s.data.length cap).ownBlock = some k → ¬ OwnC c bl mp E k) (hok : putOk s rank now) :
    Calls Try.prog 12 #[.pointer (some ⟨c, 0, none⟩), .agg #[.string (mk s.name), .int .i64 s.typ, .int .i64 s.cls, .int .i64 s.ttl, .slice ao s.data.length cap], .int .i64 rank, .int .i64 now] w fun r w' => r = .returned (.tuple #[.bool (st.putSet s rank now).2.1, .int .i64 (st.putSet s rank now).2.2]) ∧ (∃ E', CI D w' c bl mp E' (st.putSet s rank now).1 ∧ ∀ k, OwnC c bl mp E' k → OwnC c bl mp E k ∨ w.heap.size ≤ k) ∧ Fr (OwnC c bl mp E) w w' := by
  have hf := (Fr.refl nob w).alloc (.cells #[.string (mk s.name), .int .i64 s.typ, .int .i64 s.cls, .int .i64 s.ttl, .slice ao s.data.length cap] 24)
  have hnb := blk_new w (.cells #[.string (mk s.name), .int .i64 s.typ, .int .i64 s.cls, .int .i64 s.ttl, .slice ao s.data.length cap] 24)
  have hC1 := hC.fr hf (fun _ _ h => h) (fun _ _ _ _ h => h)
  have HAB := Ho.mk (absent_calls c bl _ hC1.cells.2.2.1)
  have HCK := Ho.mk (setsCheck_calls s ao cap _ hn (hd.same hf))
  have b0 : (w.alloc (.cells #[.string (mk s.name), .int .i64 s.typ, .int .i64 s.cls, .int .i64 s.ttl, .slice ao s.data.length cap] 24)).cell? ⟨w.heap.size, 0, none⟩ = some (.string (mk s.name)) := blk_cell hnb 0
  have b1 : (w.alloc (.cells #[.string (mk s.name), .int .i64 s.typ, .int .i64 s.cls, .int .i64 s.ttl, .slice ao s.data.length cap] 24)).cell? ⟨w.heap.size, 1, none⟩ = some (.int .i64 s.typ) := blk_cell hnb 1
  have b2 : (w.alloc (.cells #[.string (mk s.name), .int .i64 s.typ, .int .i64 s.cls, .int .i64 s.ttl, .slice ao s.data.length cap] 24)).cell? ⟨w.heap.size, 2, none⟩ = some (.int .i64 s.cls) := blk_cell hnb 2
  have b3 : (w.alloc (.cells #[.string (mk s.name), .int .i64 s.typ, .int .i64 s.cls, .int .i64 s.ttl, .slice ao s.data.length cap] 24)).cell? ⟨w.heap.size, 3, none⟩ = some (.int .i64 s.ttl) := blk_cell hnb 3
  have b4 : (w.alloc (.cells #[.string (mk s.name), .int .i64 s.typ, .int .i64 s.cls, .int .i64 s.ttl, .slice ao s.data.length cap] 24)).cell? ⟨w.heap.size, 4, none⟩ = some (.slice ao s.data.length cap) := blk_cell hnb 4
  have HF := Ho.mk hf; have HNB := Ho.mk hnb; have HW := Ho.mk hw; have HC := Ho.mk hC; have HDD := Ho.mk hD; have HST := Ho.mk hd; have HOK := Ho.mk hok; have HDN := Ho.mk hdn
  rw [putSet_ok hok]
  obtain ⟨res, hres⟩ : ∃ x, (if s.ttl = 0 then (st.to now, false, (0 : Int))
    else if rank < 3 ∧ ((st.to now).live (low s.name) s.typ).any (·.blocks rank) = true then (st.to now, false, 0)
    else ((if rank < 3 then st.to now else { st.to now with L := outL st.L (low s.name) 0 }).putT ⟨low s.name, s.typ, (st.to now).now + s.ttl, some (s, rank)⟩, true, 0)) = x := ⟨_, rfl⟩
  rw [hres]
  have HRES := Ho.mk hres
  clear hf hnb hC1 hC hD hd hok hw hres hdn
  go_enter Try.func12, Try.ntmps12
  go_wp2_with (fail)
  refine HAB.out.mono ?_
  clear HAB
  rintro r w1 ⟨rfl, rfl⟩
  go_wp2_with (fail)
  refine HCK.out.mono ?_
  clear HCK
  rintro r w2 ⟨ec, rfl, hec, f2⟩
  have hb2 := f2.block _ _ HNB.out (fun h => h)
  have g1 : w2.cell? ⟨w.heap.size, 1, none⟩ = some (.int .i64 s.typ) := blk_cell hb2 1
  have g2 : w2.cell? ⟨w.heap.size, 2, none⟩ = some (.int .i64 s.cls) := blk_cell hb2 2
  have g3 : w2.cell? ⟨w.heap.size, 3, none⟩ = some (.int .i64 s.ttl) := blk_cell hb2 3
  have hF2 := HF.out.trans f2
  have hC2 := HC.out.fr hF2 (fun _ _ h => h) (fun _ _ _ _ h => h)
  have HF2 := Ho.mk hF2; have HB2 := Ho.mk hb2; have HC2 := Ho.mk hC2
  obtain ⟨c0, c1, c2, c3⟩ := hC2.cells
  have z1 : w2.frozen? ⟨c, 1, none⟩ = false := blk_free hC2.head 1
  have q1 : (ec != 0) = false := by
    rcases hec with ⟨_, h⟩ | ⟨h, _⟩
    · rw [h]; rfl
    · exact absurd HOK.out.set h
  have q2 : (s.cls != 1) = false := by simp [HOK.out.cls]
  have q3 : (s.typ == 0) = false := by simp [HOK.out.typ]
  have q4 : decide (rank < 1) = false := decide_eq_false (by have := HOK.out.rank; omega)
  have q5 : decide (3 < rank) = false := decide_eq_false (by have := HOK.out.rank; omega)
  have hw6 := within_calls now w2
  rw [decide_eq_true HOK.out.time] at hw6
  have HW6 := Ho.mk hw6
  clear hw6 hec f2 hb2 hF2 hC2 b0 b1 b2 b3 b4 c0 c2 c3 HF HNB
  generalize hbx : w.heap.size = bx at *
  have HBX := Ho.mk hbx
  clear hbx
  obtain ⟨nw, hnw⟩ : ∃ nw, (if st.now < now then now else st.now) = nw := ⟨_, rfl⟩
  have hmx : max st.now now = nw := by rw [← hnw]; split <;> omega
  have hto := HC2.out.to now
  rw [hmx] at hto
  have HTO := Ho.mk hto; have HMX := Ho.mk hmx
  clear hto hmx
  by_cases httl : s.ttl = 0
  case pos =>
    have q7 : (s.ttl == 0) = true := by rw [httl]; rfl
    have hr : res = (st.to now, false, 0) := by rw [← HRES.out, if_pos httl]
    have HR := Ho.mk hr
    have HF3 := Ho.mk ((HF2.out.mono (S' := OwnC c bl mp E) (fun _ _ h => h.elim)).trans ((setFr w2 c 1 (.int .i64 nw)).mono (fun k _ h => .inl h)))
    clear httl hr
    go_wp2_with (first | (go_at_call 35; refine HW6.out.mono ?_; rintro r w3 ⟨rfl, rfl⟩))
    go_ret2
    rw [HR.out]
    exact ⟨rfl, ⟨E, HTO.out, fun k hk => .inl hk⟩, HF3.out⟩
  have q7 : (s.ttl == 0) = false := by rw [beq_eq_false_iff_ne]; exact httl
  have HTTL := Ho.mk httl
  clear httl
  go_upto_region 8 with (first | (go_at_call 35; refine HW6.out.mono ?_; rintro r w3 ⟨rfl, rfl⟩))
  have hB3 : (w2.setCell ⟨c, 1, none⟩ (.int .i64 nw)).heap[bx]? = some (.cells #[.string (mk s.name), .int .i64 s.typ, .int .i64 s.cls, .int .i64 s.ttl, .slice ao s.data.length cap] 24 (0, 0)) := blk_far HB2.out ⟨c, 1, none⟩ (fun e => by
    have h1 := HC2.out.head; have h2 := HB2.out
    have e' : bx = c := e
    rw [e', h1] at h2; simp at h2) _
  have HB3 := Ho.mk hB3
  have HF3 := Ho.mk ((HF2.out.mono (S' := OwnC c bl mp E) (fun _ _ h => h.elim)).trans ((setFr w2 c 1 (.int .i64 nw)).mono (fun k _ h => .inl h)))
  have HDS : Ho (IsStrs (w2.setCell ⟨c, 1, none⟩ (.int .i64 nw)) (.slice ao s.data.length cap) s.data) := Ho.mk (strs_set (HST.out.same HF2.out) HC2.out.cells.2.1 _)
  clear hB3 q1 q2 q3 q4 q5 q7 hnw HW6 z1 c1 g1 g2 g3 HB2 HF2 HC2
  generalize w2.setCell ⟨c, 1, none⟩ (.int .i64 nw) = w3 at *
  have HS3 : Ho (∀ W, Fr nob w3 W → W.cell? ⟨bx, 0, none⟩ = some (.string (mk s.name)) ∧ W.cell? ⟨bx, 1, none⟩ = some (.int .i64 s.typ) ∧ Fr nob w3 W) := Ho.mk fun W hW => by
    have hb := hW.block _ _ HB3.out (fun h => h)
    exact ⟨blk_cell hb 0, blk_cell hb 1, hW⟩
  have hd3 : Fr nob w3 w3.drew := (Fr.refl nob w3).drew
  have hz3 : Fr nob w3 (w3.alloc (.cells #[.string ⟨#[]⟩, .int .i64 0] 77)).drew := ((Fr.refl nob w3).alloc _).drew
  obtain ⟨x0, x1, _⟩ := HS3.out _ hd3
  have y0 := (HS3.out _ (Fr.refl nob w3)).1
  have y1 := (HS3.out _ (Fr.refl nob w3)).2.1
  have HZB := Ho.mk (blk_new w3 (.cells #[.string ⟨#[]⟩, .int .i64 0] 77))
  have hbk : ∀ (a : ByteArray) (W : World), (Instr.build 77 #[(0, .string a), (1, .int .i64 s.typ)]).run Try.prog W = .ok (.agg #[.string a, .int .i64 s.typ]) W := fun a W => by kernel_rfl
  go_region_held3 (fun W => W.cell? ⟨bx, 0, none⟩ = some (.string (mk s.name)) ∧ W.cell? ⟨bx, 1, none⟩ = some (.int .i64 s.typ) ∧ Fr nob w3 W)
    (first | exact HS3.out _ hd3 | exact HS3.out _ hz3 | exact HS3.out _ hf4 | exact HS3.out _ (hf4.alloc _) | exact HS3.out _ hs4)
    (first
      | (go_at_call 36; refine (Lower_calls s.name w3.drew (by omega)).mono ?_; rintro r w4 ⟨rfl, f4⟩; have hf4 := hd3.trans f4; clear f4)
      | (go_at_call 36; refine (Lower_calls s.name _ (by omega)).mono ?_; rintro r w4 ⟨rfl, f4⟩; have hf4 := hz3.trans f4; have hzb := f4.block _ _ HZB.out (fun h => h); have hz0 : w4.cell? ⟨w3.heap.size, 0, none⟩ = some (.string ⟨#[]⟩) := blk_cell hzb 0; have hz1 : w4.cell? ⟨w3.heap.size, 1, none⟩ = some (.int .i64 0) := blk_cell hzb 1; have hzf0 := blk_free hzb 0; have hzf1 := blk_free hzb 1; have HZ4 := Ho.mk hzb; have hs4 := (hf4.set (p := ⟨w3.heap.size, 0, none⟩) (.inl (Nat.le_refl _)) (.string (mk (low s.name)))).set (p := ⟨w3.heap.size, 1, none⟩) (.inl (Nat.le_refl _)) (.int .i64 s.typ); clear f4 hzb))
  case' _ =>
    have HK5 := Ho.mk (blk_new w4 (.cells #[.string (mk (low s.name)), .int .i64 s.typ] 77))
    have HF5 := Ho.mk (hf4.alloc (.cells #[.string (mk (low s.name)), .int .i64 s.typ] 77))
    have HKN := Ho.mk hf4.size
    clear hf4
    generalize w4.heap.size = kb at *
    generalize w4.alloc (.cells #[.string (mk (low s.name)), .int .i64 s.typ] 77) = w5 at *
  rotate_left
  case' _ =>
    have HK5 := Ho.mk (blk_set (blk_set HZ4.out 0 (.string (mk (low s.name)))) 1 (.int .i64 s.typ))
    have HF5 := Ho.mk hs4
    have HKN := Ho.mk (Nat.le_refl w3.heap.size)
    clear hf4 hs4 hz0 hz1 hzf0 hzf1 HZ4
    generalize (w4.setCell ⟨w3.heap.size, 0, none⟩ (.string (mk (low s.name)))).setCell ⟨w3.heap.size, 1, none⟩ (.int .i64 s.typ) = w5 at *
    generalize hkb : w3.heap.size = kb at *
    clear hkb
  all_goals
    have k0 : w5.cell? ⟨kb, 0, none⟩ = some (.string (mk (low s.name))) := blk_cell HK5.out 0
    have k1 : w5.cell? ⟨kb, 1, none⟩ = some (.int .i64 s.typ) := blk_cell HK5.out 1
    clear x0 x1 y0 y1 hd3 hz3 HS3 hbk HZB
    have HFX : Ho (∀ S W, Fr S w5 W → (∀ k, S k → OwnC c bl mp E k) → W.heap[bx]? = some (.cells #[.string (mk s.name), .int .i64 s.typ, .int .i64 s.cls, .int .i64 s.ttl, .slice ao s.data.length cap] 24 (0, 0)) ∧ W.heap[kb]? = some (.cells #[.string (mk (low s.name)), .int .i64 s.typ] 77 (0, 0)) ∧ IsStrs W (.slice ao s.data.length cap) s.data ∧ Fr (OwnC c bl mp E) w W) := Ho.mk fun S W hf hS => by
      have hC5 := HTO.out.fr HF5.out (fun _ _ h => h) (fun _ _ _ _ h => h)
      have hb5 := HF5.out.block _ _ HB3.out (fun h => h)
      refine ⟨hf.block _ _ hb5 (fun h => hC5.typeNot hb5 (by decide) (by decide) (by decide) (hS _ h)), hf.block _ _ HK5.out (fun h => hC5.typeNot HK5.out (by decide) (by decide) (by decide) (hS _ h)), ((HDS.out.same HF5.out).fr hf (fun k hk h => HDN.out k hk (hS k h))), (HF3.out.trans (HF5.out.mono (fun _ _ h => h.elim))).trans (hf.mono (fun k _ h => hS k h))⟩
    have HC5 := Ho.mk (HTO.out.fr HF5.out (fun _ _ h => h) (fun _ _ _ _ h => h))
    have HW5 := Ho.mk (HW.out.to HOK.out.time)
    clear HF5 HK5 HTO HB3 HDS HF3 HKN
    by_cases hr3 : rank < 3
    case' pos =>
      have q8 : decide (rank < 3) = true := decide_eq_true hr3
      have HR3 := Ho.mk hr3
      clear hr3
      go_wp2_with (fail)
      refine (live_calls D w5 c bl mp E (st.to now) (low s.name) s.typ HC5.out).mono ?_
      rintro r w6 ⟨hlive, f6⟩
      obtain ⟨hb6, hk6, hd6, hF6⟩ := HFX.out nob w6 f6 (fun _ h => h.elim)
      have HB6 := Ho.mk hb6; have HK6 := Ho.mk hk6; have HD6 := Ho.mk hd6; have HF6 := Ho.mk hF6; have HC6 := Ho.mk (HC5.out.fr f6 (fun _ _ h => h) (fun _ _ _ _ h => h))
      have HF56 := Ho.mk f6
      clear hb6 hk6 hd6 hF6 f6 k0 k1
      rcases hlive with ⟨rfl, hl⟩ | ⟨A, x, Bx, hE, hkey, rfl, hl, hlt⟩
      case' inl =>
        have hres : res = ((st.to now).putT ⟨low s.name, s.typ, (st.to now).now + s.ttl, some (s, rank)⟩, true, 0) := by
          rw [← HRES.out, if_neg HTTL.out, hl, if_neg (by simp), if_pos HR3.out]
        have HRS := Ho.mk hres
        have a1 := run_as_none_nil
        have a2 := run_as_known_nil
        clear hl hres
        go_upto_region 19 with (fail)
        clear a1 a2
        obtain ⟨E6, st6, HCJ, HOWN, HRJ, HWJ, HNJ⟩ : ∃ E6 st6, Ho (CI D w6 c bl mp E6 st6) ∧ Ho (∀ k, OwnC c bl mp E6 k → OwnC c bl mp E k) ∧ Ho (res = (st6.putT ⟨low s.name, s.typ, nw + s.ttl, some (s, rank)⟩, true, 0)) ∧ Ho st6.wf ∧ Ho (st6.now = nw) := ⟨E, st.to now, HC6, Ho.mk (fun _ h => h), Ho.mk (by rw [← HMX.out]; exact HRS.out), HW5, HMX⟩
        clear HRS HC6 HF56
        generalize w6 = wj at *
      case' inr =>
        by_cases hst : x.th.st = none
        case pos =>
          have hres : res = (st.to now, false, 0) := by
            rw [← HRES.out, if_neg HTTL.out, hl, if_pos ⟨HR3.out, by simp [Th.blocks, hst]⟩]
          have HRS := Ho.mk hres
          have hthv : thV x = .iface 82 (.agg #[.int .i64 x.th.fin]) := by unfold thV; rw [hst]
          rw [hthv]
          have a1 := run_as_none_none (.agg #[.int .i64 x.th.fin])
          have HF7 := Ho.mk (HF6.out.alloc (.cells #[.int .i64 x.th.fin] 82))
          have HC7 := Ho.mk (HC6.out.fr ((Fr.refl nob w6).alloc (.cells #[.int .i64 x.th.fin] 82)) (fun _ _ h => h) (fun _ _ _ _ h => h))
          clear hl hres hE hkey hlt hst hthv
          go_wp2_with (fail)
          go_ret2
          rw [HRS.out]
          exact ⟨rfl, ⟨E, HC7.out, fun k hk => .inl hk⟩, HF7.out⟩
        obtain ⟨s0, r0, hst⟩ : ∃ s0 r0, x.th.st = some (s0, r0) := by
          cases h : x.th.st with
          | none => exact absurd h hst
          | some p => exact ⟨p.1, p.2, rfl⟩
        have hthv : thV x = .iface 84 (.agg #[.string (mk s0.name), .int .i64 s0.typ, .int .i64 s0.cls, .int .i64 s0.ttl, .slice x.ao s0.data.length x.cap, .int .i64 r0, .int .i64 x.th.fin]) := by unfold thV; rw [hst]; rfl
        rw [hthv]
        have a1 := run_as_none_known (.agg #[.string (mk s0.name), .int .i64 s0.typ, .int .i64 s0.cls, .int .i64 s0.ttl, .slice x.ao s0.data.length x.cap, .int .i64 r0, .int .i64 x.th.fin])
        have a2 := run_as_known_known (.agg #[.string (mk s0.name), .int .i64 s0.typ, .int .i64 s0.cls, .int .i64 s0.ttl, .slice x.ao s0.data.length x.cap, .int .i64 r0, .int .i64 x.th.fin])
        have HF7 := Ho.mk (HF6.out.alloc (.cells #[.string (mk s0.name), .int .i64 s0.typ, .int .i64 s0.cls, .int .i64 s0.ttl, .slice x.ao s0.data.length x.cap, .int .i64 r0, .int .i64 x.th.fin] 84))
        have HC7 := Ho.mk (HC6.out.fr ((Fr.refl nob w6).alloc (.cells #[.string (mk s0.name), .int .i64 s0.typ, .int .i64 s0.cls, .int .i64 s0.ttl, .slice x.ao s0.data.length x.cap, .int .i64 r0, .int .i64 x.th.fin] 84)) (fun _ _ h => h) (fun _ _ _ _ h => h))
        by_cases hbt : r0 ≤ rank
        case neg =>
          have hres : res = (st.to now, false, 0) := by
            rw [← HRES.out, if_neg HTTL.out, hl, if_pos ⟨HR3.out, by simp [Th.blocks, hst]; omega⟩]
          have HRS := Ho.mk hres
          have d1 : decide (r0 ≤ rank) = false := decide_eq_false hbt
          have hbe := Better_calls r0 rank (w6.alloc (.cells #[.string (mk s0.name), .int .i64 s0.typ, .int .i64 s0.cls, .int .i64 s0.ttl, .slice x.ao s0.data.length x.cap, .int .i64 r0, .int .i64 x.th.fin] 84))
          rw [d1] at hbe
          have HBE := Ho.mk hbe
          clear hl hres hE hkey hlt hst hthv hbt hbe d1
          go_wp2_with (first | (go_at_call 38; refine HBE.out.mono ?_; rintro r w8 ⟨rfl, rfl⟩))
          go_ret2
          rw [HRS.out]
          exact ⟨rfl, ⟨E, HC7.out, fun k hk => .inl hk⟩, HF7.out⟩
        have hres : res = ((st.to now).putT ⟨low s.name, s.typ, (st.to now).now + s.ttl, some (s, rank)⟩, true, 0) := by
          rw [← HRES.out, if_neg HTTL.out, hl, if_neg (by simp [Th.blocks, hst]; omega), if_pos HR3.out]
        have HRS := Ho.mk hres
        have d1 : decide (r0 ≤ rank) = true := decide_eq_true hbt
        have hbe := Better_calls r0 rank (w6.alloc (.cells #[.string (mk s0.name), .int .i64 s0.typ, .int .i64 s0.cls, .int .i64 s0.ttl, .slice x.ao s0.data.length x.cap, .int .i64 r0, .int .i64 x.th.fin] 84))
        rw [d1] at hbe
        have HBE := Ho.mk hbe
        have hfa := (Fr.refl nob w6).alloc (.cells #[.string (mk s0.name), .int .i64 s0.typ, .int .i64 s0.cls, .int .i64 s0.ttl, .slice x.ao s0.data.length x.cap, .int .i64 r0, .int .i64 x.th.fin] 84)
        have HB7 := Ho.mk (hfa.block _ _ HB6.out (fun h => h)); have HK7 := Ho.mk (hfa.block _ _ HK6.out (fun h => h)); have HD7 := Ho.mk (HD6.out.same hfa)
        clear hl hres hE hkey hlt hst hthv hbt hbe d1 hfa HB6 HK6 HD6 HF6 HC6
        go_upto_region 19 with (first | (go_at_call 38; refine HBE.out.mono ?_; rintro r w8 ⟨rfl, rfl⟩))
        obtain ⟨E6, st6, HCJ, HOWN, HRJ, HWJ, HNJ⟩ : ∃ E6 st6, Ho (CI D (w6.alloc (.cells #[.string (mk s0.name), .int .i64 s0.typ, .int .i64 s0.cls, .int .i64 s0.ttl, .slice x.ao s0.data.length x.cap, .int .i64 r0, .int .i64 x.th.fin] 84)) c bl mp E6 st6) ∧ Ho (∀ k, OwnC c bl mp E6 k → OwnC c bl mp E k) ∧ Ho (res = (st6.putT ⟨low s.name, s.typ, nw + s.ttl, some (s, rank)⟩, true, 0)) ∧ Ho st6.wf ∧ Ho (st6.now = nw) := ⟨E, st.to now, HC7, Ho.mk (fun _ h => h), Ho.mk (by rw [← HMX.out]; exact HRS.out), HW5, HMX⟩
        have HB6 := HB7; have HK6 := HK7; have HD6 := HD7; have HF6 := HF7
        clear HRS HC7 HBE a1 a2 HB7 HK7 HD7 HF7 HF56
        generalize w6.alloc (.cells #[.string (mk s0.name), .int .i64 s0.typ, .int .i64 s0.cls, .int .i64 s0.ttl, .slice x.ao s0.data.length x.cap, .int .i64 r0, .int .i64 x.th.fin] 84) = wj at *
    case' neg =>
      have q8 : decide (rank < 3) = false := decide_eq_false hr3
      have hres : res = (({ st.to now with L := outL st.L (low s.name) 0 } : Ca).putT ⟨low s.name, s.typ, (st.to now).now + s.ttl, some (s, rank)⟩, true, 0) := by
        rw [← HRES.out, if_neg HTTL.out, if_neg (fun h => hr3 h.1), if_neg hr3]
      have HRS := Ho.mk hres
      clear hr3 hres
      go_wp2_with (fail)
      refine (out_calls D w5 c bl mp E (st.to now) (low s.name) 0 (keysE HW.out HC.out.st) (HC.out.key HW.out) HC5.out).mono ?_
      rintro r w6 ⟨rfl, h6, f6⟩
      obtain ⟨hb6, hk6, hd6, hF6⟩ := HFX.out _ w6 f6 (fun k h => h.elim (fun h => .inr (.inl h)) (fun h => .inr (.inr h)))
      have HB6 := Ho.mk hb6; have HK6 := Ho.mk hk6; have HD6 := Ho.mk hd6; have HF6 := Ho.mk hF6; have HC6 := Ho.mk h6
      clear hb6 hk6 hd6 hF6 f6 k0 k1 h6
      go_upto_region 19 with (fail)
      obtain ⟨E6, st6, HCJ, HOWN, HRJ, HWJ, HNJ⟩ : ∃ E6 st6, Ho (CI D w6 c bl mp E6 st6) ∧ Ho (∀ k, OwnC c bl mp E6 k → OwnC c bl mp E k) ∧ Ho (res = (st6.putT ⟨low s.name, s.typ, nw + s.ttl, some (s, rank)⟩, true, 0)) ∧ Ho st6.wf ∧ Ho (st6.now = nw) := ⟨outE E (low s.name) 0, _, HC6, Ho.mk (fun _ h => h.out), Ho.mk (by rw [← HMX.out]; exact HRS.out), Ho.mk (HW5.out.sub List.filter_sublist), HMX⟩
      clear HRS HC6
      generalize w6 = wj at *
    all_goals
      have hlen64 : s.data.length ≤ 64 := HOK.out.set.len.2
      have hcl := Clone_calls ao cap s.data wj HD6.out (by omega)
      have b4 : wj.cell? ⟨bx, 4, none⟩ = some (.slice ao s.data.length cap) := blk_cell HB6.out 4
      obtain ⟨ld, hld⟩ : ∃ n, s.data.length = n := ⟨_, rfl⟩
      rw [hld] at hcl b4
      have HLD := Ho.mk hld
      clear hld hlen64 HFX HRES HTTL
      go_wp2_with (fail)
      refine hcl.mono ?_
      clear hcl
      rintro r w9 ⟨ao9, cap9, rfl, ho9, f9⟩
      have hb9 := f9.block _ _ HB6.out (fun h => h)
      have z4 : w9.frozen? ⟨bx, 4, none⟩ = false := blk_free hb9 4
      have b49 : w9.cell? ⟨bx, 4, none⟩ = some (.slice ao s.data.length cap) := blk_cell hb9 4
      have hC9 := HCJ.out.fr f9 (fun _ _ h => h) (fun _ _ _ _ h => h)
      have hst10 := setFr w9 bx 4 (.slice ao9 ld cap9)
      have hbn : ¬ OwnC c bl mp E6 bx := hC9.typeNot hb9 (by decide) (by decide) (by decide)
      have HC10 := Ho.mk (hC9.fr hst10 (fun k hk e => by subst e; exact hbn hk) (fun k cur _ hc e => by subst e; rw [hb9] at hc; simp at hc))
      have HB10 := Ho.mk (show (w9.setCell ⟨bx, 4, none⟩ (.slice ao9 ld cap9)).heap[bx]? = some (.cells #[.string (mk s.name), .int .i64 s.typ, .int .i64 s.cls, .int .i64 s.ttl, .slice ao9 ld cap9] 24 (0, 0)) from blk_set hb9 4 _)
      have HK10 := Ho.mk (hst10.block _ _ (f9.block _ _ HK6.out (fun h => h)) (fun e => by
        have h1 := f9.block _ _ HK6.out (fun h => h); rw [e, hb9] at h1; simp at h1))
      have hbxw : w.heap.size ≤ bx := by rw [HBX.out]; exact Nat.le_refl _
      have HF10 := Ho.mk ((HF6.out.trans (f9.mono (S' := OwnC c bl mp E) (fun _ _ h => h.elim))).call hst10 (fun k _ h => .inl (by subst h; exact hbxw)))
      have ho10 := row_set ho9 hb9 (by decide : 24 ≠ 9) 4 (.slice ao9 ld cap9)
      have ho11 : (w9.setCell ⟨bx, 4, none⟩ (.slice ao9 ld cap9)).ownsRow wj.heap.size 9 1 (.slice ao9 s.data.length cap9) s.data.length (s.data.map str) := by rw [HLD.out]; exact ho10
      have HRT := Ho.mk (own_RT (D := D) ho11 (fun k hk => HDD.out k (by have := HF6.out.size; have := HBX.out; omega)))
      have HCAP := Ho.mk (own_le ho11)
      clear hb9 hC9 hst10 hbn hbxw ho9 ho10 ho11 f9 HB6 HK6 HD6 HF6 HCJ
      go_upto_region 20 with (fail)
      clear z4 b49
      generalize w9.setCell ⟨bx, 4, none⟩ (.slice ao9 ld cap9) = w10 at *
      obtain ⟨c0, c1, c2, c3⟩ := HC10.out.cells
      rw [HNJ.out] at c1
      have k0 : w10.cell? ⟨kb, 0, none⟩ = some (.string (mk (low s.name))) := blk_cell HK10.out 0
      have k1 : w10.cell? ⟨kb, 1, none⟩ = some (.int .i64 s.typ) := blk_cell HK10.out 1
      have g0 : w10.cell? ⟨bx, 0, none⟩ = some (.string (mk s.name)) := blk_cell HB10.out 0
      have g1 : w10.cell? ⟨bx, 1, none⟩ = some (.int .i64 s.typ) := blk_cell HB10.out 1
      have g2 : w10.cell? ⟨bx, 2, none⟩ = some (.int .i64 s.cls) := blk_cell HB10.out 2
      have g3 : w10.cell? ⟨bx, 3, none⟩ = some (.int .i64 s.ttl) := blk_cell HB10.out 3
      have g4 : w10.cell? ⟨bx, 4, none⟩ = some (.slice ao9 ld cap9) := blk_cell HB10.out 4
      have hwr : IntKind.i64.wrap (nw + s.ttl) = nw + s.ttl := by
        have h1 := HOK.out.set.ttl; have h2 := HWJ.out.now; have h3 := HNJ.out; rw [IntKind.wrap_i64]; omega
      have hbld := run_build_known (mk s.name) s.typ s.cls s.ttl (.slice ao9 ld cap9) rank (nw + s.ttl)
      have hput := put_calls D w10.drew c bl mp E6 st6 ⟨0, ⟨low s.name, s.typ, nw + s.ttl, some (s, rank)⟩, ao9, cap9⟩ HWJ.out (HC10.out.fr ((Fr.refl nob w10).drew) (fun _ _ h => h) (fun _ _ _ _ h => h)) (fun s' r' hs' => by
        injection hs' with hs'
        injection hs' with e1 e2
        subst e1 e2
        exact ⟨HRT.out.fr ((Fr.refl nob w10).drew) (fun _ _ _ _ h => h), HCAP.out⟩)
      have hthv : thV (⟨0, ⟨low s.name, s.typ, nw + s.ttl, some (s, rank)⟩, ao9, cap9⟩ : ElC) = .iface 84 (.agg #[.string (mk s.name), .int .i64 s.typ, .int .i64 s.cls, .int .i64 s.ttl, .slice ao9 ld cap9, .int .i64 rank, .int .i64 (nw + s.ttl)]) := by
        rw [← HLD.out]; rfl
      rw [hthv] at hput
      have HPUT := Ho.mk hput
      clear hput hthv c0 c2 c3
      go_still_tail 13, (by kernel_rfl)
      clear c1 k0 k1 g0 g1 g2 g3 g4 hwr hbld
      go_wp2_with (fail)
      refine HPUT.out.mono ?_
      clear HPUT
      rintro r w12 ⟨rfl, E', hc12, ho12, f12⟩
      have HC12 := Ho.mk hc12; have HO12 := Ho.mk ho12
      have HF12 := Ho.mk ((HF10.out.drew).trans (f12.mono (fun k _ h => HOWN.out k (h.elim (fun h => .inr (.inl h)) (fun h => .inr (.inr h))))))
      have HSZ := Ho.mk HF10.out.size
      clear hc12 ho12 f12
      go_wp2_with (fail)
      go_ret2
      rw [HRJ.out]
      refine ⟨rfl, ⟨E', HC12.out, fun k hk => ?_⟩, HF12.out⟩
      rcases HO12.out k hk with h | h
      · exact .inl (HOWN.out k h)
      · exact .inr (Nat.le_trans HSZ.out h)
/-- PUTSET. -/
theorem PutSet_calls (D : Nat → Prop) (w : World) (c : Nat) (st : Ca) (s : CSet) (ao : Option Addr) (cap : Nat) (rank now : Int) (h : QC D w c st) (hD : ∀ k, w.heap.size ≤ k → D k) (hn : s.name.length ≤ 100000) (hd : IsStrs w (.slice ao s.data.length cap) s.data) (hdn : ∀ k, (Value.slice ao s.data.length cap).ownBlock = some k → ¬ D k) :
    Calls Try.prog 12 #[.pointer (some ⟨c, 0, none⟩), .agg #[.string (mk s.name), .int .i64 s.typ, .int .i64 s.cls, .int .i64 s.ttl, .slice ao s.data.length cap], .int .i64 rank, .int .i64 now] w fun r w' => r = .returned (.tuple #[.bool (st.putSet s rank now).2.1, .int .i64 (st.putSet s rank now).2.2]) ∧ QC D w' c (st.putSet s rank now).1 ∧ Fr D w w' := by
  obtain ⟨hw, bl, mp, E, hC, hO⟩ := h
  by_cases hok : putOk s rank now
  · refine (putSet_good_calls D w c bl mp E st s ao cap rank now hw hC hD hn hd (fun k hk h => hdn k hk (hO k h)) hok).mono ?_
    rintro r w' ⟨rfl, ⟨E', h1, h2⟩, hf⟩
    refine ⟨rfl, ⟨hw.putSet hok, bl, mp, E', h1, fun k hk => ?_⟩, hf.mono fun k _ hk => hO k hk⟩
    rcases h2 k hk with h | h
    · exact hO k h
    · exact hD k h
  · have e : st.putSet s rank now = (st, false, 2) := by unfold Ca.putSet; rw [if_pos hok]
    rw [e]
    refine (putSet_bad_calls c bl w s ao cap rank now hC.cells.2.2.1 hn hd hok).mono ?_
    rintro r w' ⟨rfl, hf⟩
    exact ⟨rfl, QC.fr ⟨hw, bl, mp, E, hC, hO⟩ hf (fun _ _ h => h), hf.mono (fun _ _ h => h.elim)⟩
end Go.Proofs.Ytlbhfnjhhpcphaa
