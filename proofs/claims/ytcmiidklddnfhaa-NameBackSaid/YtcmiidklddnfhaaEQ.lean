/-
  package name: label.
-/
import Derived.Test.YtcmiidklddnfhaaEP
import Derived.Lib.BufferRead
import Derived.Lib.UnsafeStr
import Derived.Deep.RegionLaw
import Derived.Deep.AppendLies
namespace Go.Proofs.Ytcmiidklddnfhaa
open Go.RowKit
theorem conv_row {B : Nat} {w : World} {v : Value} {l : Bs} (h : w.ownsRow B 5 1 v l.length (Lib.byteCells l)) : (convert 53 9 v).run Try.prog w = .ok (.string (mk l)) w := by
  rcases h.2 with ⟨rfl, h0⟩ | ⟨g, cap, cur, rfl, hB, hh, h1, h2, h3, h4⟩
  · obtain rfl : l = [] := List.eq_nil_of_length_eq_zero h0
    exact Lib.run_convert_nil_bytes w 53 9 5 0 Try.underlying53 Try.underlying5 Try.underlying9
  · refine run_convert_bytes_back w 53 9 5 ⟨g, 0, none⟩ cap l Try.underlying53 Try.underlying5 Try.underlying9 (fun j hj => ?_)
    rw [addr_add, Nat.zero_add, blk_cell hh]
    have e1 : (Lib.byteCells l)[j]? = some (.int .u8 (l[j].toNat : Int)) := by simp [Lib.byteCells, hj]
    rw [← h4, List.getElem?_take_of_lt (by omega)] at e1
    simpa using e1
def atOf (w : World) (p : Nat) : Nat := match w.cell? ⟨p, 1, none⟩ with | some (.int _ n) => n.toNat | _ => 0
theorem PBlk.atOf {w : World} {p : Nat} {s : Bs} {a : Nat} {lv : Value} (h : PBlk w p s a lv) : atOf w p = a := by
  unfold Go.Proofs.Ytcmiidklddnfhaa.atOf; rw [show w.cell? ⟨p, 1, none⟩ = some (.int .i64 (a : Int)) from blk_cell h 1]; simp
def LabelPost (s : Bs) (a p B : Nat) (acc : List Bs) (lv : Value) (w : World) (e : Ending) (w' : World) : Prop :=
  match labelP (s.drop a) a with
  | .error (er, o) => e = Fails er (o : Int) ∧ Fr (fun k => k = p) w w'
  | .ok (b, _, a') => e = .returned (.tuple #[]) ∧ ∃ lv', PBlk w' p s a' lv' ∧ w'.ownsRow B 9 1 lv' (acc.length + 1) (acc.map str ++ [str b]) ∧ Fr (fun k => k = p ∨ lv.ownBlock = some k) w w'
theorem LabelPost.bad {s : Bs} {a p B : Nat} {acc : List Bs} {lv : Value} {w w' : World} {er : Int} {o : Nat} {e : Ending} (h : labelP (s.drop a) a = .error (er, o)) (he : e = Fails er (o : Int)) (hf : Fr (fun k => k = p) w w') : LabelPost s a p B acc lv w e w' := by
  unfold LabelPost; rw [h]; exact ⟨he, hf⟩
theorem LabelPost.good {s : Bs} {a p B : Nat} {acc : List Bs} {lv lv' : Value} {w w' : World} {b r' : Bs} {a' : Nat} (h : labelP (s.drop a) a = .ok (b, r', a')) (hp : PBlk w' p s a' lv) (ho : w'.ownsRow B 9 1 lv' (acc.length + 1) (acc.map str ++ [str b])) (hf : Fr (fun k => k = p ∨ lv.ownBlock = some k) w w') : LabelPost s a p B acc lv w (.returned (.tuple #[])) (w'.setCell ⟨p, 2, none⟩ lv') := by
  unfold LabelPost; rw [h]
  refine ⟨rfl, lv', blk_set hp 2 _, ?_, hf.set (p := ⟨p, 2, none⟩) (.inr (.inl rfl)) _⟩
  exact row_fr ho ((Fr.refl (fun k => k = p) w').set (p := ⟨p, 2, none⟩) (.inr rfl) lv') (fun k c fz hk _ hc => by
    have : k = p := hk
    subst this
    unfold PBlk at hp
    rw [hp] at hc; cases hc)
theorem own_far {B p : Nat} {w : World} {v : Value} {n : Nat} {xs : List Value} {s : Bs} {a : Nat} {lv : Value} (h : w.ownsRow B 5 1 v n xs) (hp : PBlk w p s a lv) (k : Nat) (hk : v.ownBlock = some k) : B ≤ k ∧ k ≠ p := by
  rcases h.2 with ⟨rfl, _⟩ | ⟨g, cap, cur, rfl, hg, hh, _⟩
  · simp [Value.ownBlock] at hk
  · simp only [Value.ownBlock, Option.some.injEq] at hk
    subst hk
    refine ⟨hg, fun e => ?_⟩
    subst e
    unfold PBlk at hp
    rw [hp] at hh; cases hh
theorem own_far2 {B p : Nat} {w : World} {v : Value} {n : Nat} {xs : List Value} {s : Bs} {a : Nat} {lv : Value} (h : w.ownsRow B 9 1 v n xs) (hp : PBlk w p s a lv) (k : Nat) (hk : v.ownBlock = some k) : k ≠ p := by
  rcases h.2 with ⟨rfl, _⟩ | ⟨g, cap, cur, rfl, hg, hh, _⟩
  · simp [Value.ownBlock] at hk
  · simp only [Value.ownBlock, Option.some.injEq] at hk
    subst hk
    intro e
    subst e
    unfold PBlk at hp
    rw [hp] at hh; cases hh
theorem LabelP_eq {s : Bs} {a : Nat} {c : UInt8} {er : Int × Nat} (hd : s.drop a = c :: s.drop (a + 1)) (h0 : c ≠ 46) (h : lbl (s.drop a) a [] = .error er) : labelP (s.drop a) a = .error er := by
  rw [hd] at h ⊢; exact labelP_err h0 h
set_option maxHeartbeats 4000000 in
set_option maxRecDepth 100000 in
theorem label_calls (s : Bs) (a p B : Nat) (acc : List Bs) (lv : Value) (w : World) (hb : PBlk w p s a lv) (hown : w.ownsRow B 9 1 lv acc.length (acc.map str)) (hB : B ≤ w.heap.size) (ha : a < s.length) (hs : s.length ≤ 100000) (hacc : acc.length ≤ 100000) :
    Calls Try.prog 45 #[.pointer (some ⟨p, 0, none⟩)] w (LabelPost s a p B acc lv w) := by
  have c0 : w.cell? ⟨p, 0, none⟩ = some (.string (mk s)) := blk_cell hb 0
  have c1 : w.cell? ⟨p, 1, none⟩ = some (.int .i64 (a : Int)) := blk_cell hb 1
  obtain ⟨t, ht⟩ : ∃ t, mk s = t := ⟨_, rfl⟩
  have htz : t.size = s.length := by rw [← ht, mk_size]
  rw [ht] at c0
  obtain ⟨c, hc⟩ : ∃ c, s[a] = c := ⟨_, rfl⟩
  have hdrop : s.drop a = c :: s.drop (a + 1) := by rw [← hc]; exact List.drop_eq_getElem_cons ha
  have hta : a < t.size := by omega
  have htb : t.size ≤ 100000 := by omega
  have hg : t[a] = c := by subst ht; exact hc
  have hcc : c.toNat < 256 := c.toNat_lt
  have HB := Ho.mk hb; have HOWN := Ho.mk hown; have HT := Ho.mk ht; have HTZ := Ho.mk htz; have HD := Ho.mk hdrop; have HBB := Ho.mk hB; have HS := Ho.mk hs
  obtain ⟨i0, hi, hz0, hz1, hz2⟩ := info_parts infoByte
  clear hb hown ht htz hc hdrop hB
  by_cases h0 : c = 46
  · have k1 : ((c.toNat : Int) == 46) = true := by rw [h0]; rfl
    have HL := Ho.mk (show labelP (s.drop a) a = .error (4, a) by rw [HD.out, h0]; exact labelP_dot _ _)
    clear h0
    go_enter Try.func45, Try.ntmps45
    go_wp2_with (fail)
    go_quiet (fail)
    go_wp2_with (fail)
    refine (fails_calls _ _ _ _).mono ?_
    rintro r w' ⟨rfl, rfl⟩
    exact ⟨rfl, LabelPost.bad HL.out rfl ((Fr.refl _ w).drewN nq)⟩
  · have k1 : ((c.toNat : Int) == 46) = false := by
      rw [beq_eq_false_iff_ne]; intro h; exact h0 (UInt8.toNat_inj.1 (by show c.toNat = 46; omega))
    have hst : lbl (s.drop a) a [] = lbl (s.drop a) a [] := rfl
    go_enter Try.func45, Try.ntmps45
    go_wp2_with (fail)
    go_quiet (fail)
    go_wp2_with (fail)
    have HF0 := Ho.mk ((Fr.refl (fun k => k = p) w).drewN nq)
    have HB0 : Ho (PBlk (w.drewN nq) p s a lv) := Ho.mk HB.out
    clear c0 c1 hg k1
    go_loopw [3] (fun bv wr => ∃ (a1 : Nat) (bs : Bs), a ≤ a1 ∧ a1 ≤ s.length ∧ Ho (lbl (s.drop a) a [] = lbl (s.drop a1) a1 bs) ∧ bs.length + a ≤ a1 ∧ Ho (PBlk wr p s a1 lv) ∧ wr.ownsRow w.heap.size 5 1 bv bs.length (Lib.byteCells bs) ∧ Ho (Fr (fun k => k = p) w wr)) (fun _ wr => s.length - atOf wr p)
    case atStart => exact ⟨a, [], Nat.le_refl _, by omega, Ho.mk rfl, by simp, HB0, World.ownsRow_nil _ _ _ _, HF0⟩
    case round =>
      obtain ⟨a1, bs, ha1, ha1s, HLB, hbl, HP, hrow, HF⟩ := hrel
      clear HF0 HB0
      have HPW := HP
      obtain ⟨bao, bcap, rfl⟩ := own_shape hrow
      have c0 : wr.cell? ⟨p, 0, none⟩ = some (.string t) := by have h := blk_cell HP.out 0; rw [← HT.out]; exact h
      have c1 : wr.cell? ⟨p, 1, none⟩ = some (.int .i64 (a1 : Int)) := blk_cell HP.out 1
      have f1 : wr.frozen? ⟨p, 1, none⟩ = false := blk_free HP.out 1
      have hs1 : s.length ≤ 100000 := HS.out
      have hend : Ho (lbl (s.drop a) a [] = .ok (bs, s.drop a1, a1)) → ∀ (x : Bs × Bs × Nat), True := fun _ _ => trivial
      clear hend
      by_cases hgo : a1 < s.length ∧ s.getD a1 0 ≠ 46
      · obtain ⟨hlt, hne⟩ := hgo
        obtain ⟨cb, hcb⟩ : ∃ c, s[a1] = c := ⟨_, rfl⟩
        have hne : cb ≠ 46 := by rw [← hcb]; simpa [List.getD_eq_getElem?_getD, hlt] using hne
        have hdrop : s.drop a1 = cb :: s.drop (a1 + 1) := by rw [← hcb]; exact List.drop_eq_getElem_cons hlt
        have hta : a1 < t.size := by rw [HTZ.out]; exact hlt
        have hg : t[a1] = cb := by rw [← hcb]; have := HT.out; subst this; rfl
        have hcc2 : cb.toNat < 256 := cb.toNat_lt
        have k0 : decide ((a1 : Int) < (t.size : Int)) = true := decide_eq_true (by omega)
        have k0' : decide (a1 < t.size) = true := decide_eq_true hta
        have k1 : ((cb.toNat : Int) == 46) = false := by
          rw [beq_eq_false_iff_ne]; intro h; exact hne (UInt8.toNat_inj.1 (by show cb.toNat = 46; omega))
        have HNE := Ho.mk hne
        have HL1 := Ho.mk (HLB.out.trans (by rw [hdrop]))
        clear hcb hdrop hne HLB
        go_wp2_with (fail)
        go_quiet (fail)
        obtain ⟨n1, rfl⟩ : ∃ n1 : Nat, n1 = nq := ⟨_, rfl⟩
        by_cases hbad : cb < 33 ∨ 126 < cb
        · have HLP := Ho.mk (LabelP_eq HD.out h0 (HL1.out.trans (lbl_bad _ _ _ HNE.out hbad)))
          have hbad' : cb.toNat < 33 ∨ 126 < cb.toNat := hbad
          clear hbad
          by_cases h33 : cb.toNat < 33
          case' pos =>
            have k2 : decide ((cb.toNat : Int) < 33) = true := decide_eq_true (by omega)
            have k2' : decide (cb.toNat < 33) = true := decide_eq_true h33
            clear hbad' h33
            go_wp2_with (fail)
            have c0' : (wr.drewN n1).cell? ⟨p, 0, none⟩ = some (.string t) := c0
            have c1' : (wr.drewN n1).cell? ⟨p, 1, none⟩ = some (.int .i64 (a1 : Int)) := c1
            go_quiet (fail)
            go_wp2_with (fail)
          case' neg =>
            have h126 : 126 < cb.toNat := by omega
            have k2 : decide ((cb.toNat : Int) < 33) = false := decide_eq_false (by omega)
            have k2' : decide (cb.toNat < 33) = false := decide_eq_false h33
            have k3 : decide ((126 : Int) < (cb.toNat : Int)) = true := decide_eq_true (by omega)
            have k3' : decide (126 < cb.toNat) = true := decide_eq_true h126
            clear hbad' h33 h126
            go_wp2_with (fail)
            have c0' : (wr.drewN n1).cell? ⟨p, 0, none⟩ = some (.string t) := c0
            have c1' : (wr.drewN n1).cell? ⟨p, 1, none⟩ = some (.int .i64 (a1 : Int)) := c1
            go_quiet (fail)
            go_wp2_with (fail)
          all_goals
            obtain ⟨w4, hw4⟩ : ∃ w4, wr.drewN (n1 + nq) = w4 := ⟨_, rfl⟩
            have c1'' : w4.cell? ⟨p, 1, none⟩ = some (.int .i64 (a1 : Int)) := by rw [← hw4]; exact c1
            have HF4 := Ho.mk (show Fr (fun k => k = p) w ({ w4 with drawn := w4.drawn + 1 } : World) by rw [← hw4]; exact (HF.out.drewN (n1 + nq)).drew)
            rw [hw4]
            clear hw4 c0' c1' c0 c1 f1
            go_still_tail 8, (by kernel_rfl)
            go_wp2_with (fail)
            refine (fails_calls _ _ _ _).mono ?_
            rintro r w' ⟨rfl, rfl⟩
            exact ⟨rfl, LabelPost.bad HLP.out rfl HF4.out⟩
        · have hb1 : ¬ cb.toNat < 33 := fun h => hbad (.inl h)
          have hb2 : ¬ 126 < cb.toNat := fun h => hbad (.inr h)
          have k2 : decide ((cb.toNat : Int) < 33) = false := decide_eq_false (by omega)
          have k2' : decide (cb.toNat < 33) = false := decide_eq_false hb1
          have k3 : decide ((126 : Int) < (cb.toNat : Int)) = false := decide_eq_false (by omega)
          have k3' : decide (126 < cb.toNat) = false := decide_eq_false hb2
          clear hb1 hb2
          by_cases hbs : cb = 92
          · have k5 : ((cb.toNat : Int) == 92) = true := by rw [hbs]; rfl
            have hesc := escaped_calls s a1 p lv
            cases he : escP (s.drop (a1 + 1)) with
            | error eo =>
              obtain ⟨er, o⟩ := eo
              have HLP := Ho.mk (LabelP_eq HD.out h0 (HL1.out.trans (by rw [hbs]; exact lbl_esc_bad _ _ _ he)))
              have HE := Ho.mk he; have HESC := Ho.mk hesc
              clear he hesc hbs hbad
              go_wp2_with (fail)
              have c0' : (wr.drewN n1).cell? ⟨p, 0, none⟩ = some (.string t) := c0
              have c1' : (wr.drewN n1).cell? ⟨p, 1, none⟩ = some (.int .i64 (a1 : Int)) := c1
              go_quiet (fail)
              go_wp2_with (fail)
              refine (HESC.out (wr.drewN (n1 + nq)) HP.out hlt hs1).mono ?_
              clear HESC
              intro r w5 hpo
              unfold EscPost at hpo
              rw [HE.out] at hpo
              obtain ⟨rfl, hf5⟩ := hpo
              have HF5 := Ho.mk ((HF.out.drewN (n1 + nq)).trans (hf5.mono (S' := fun k => k = p) (fun _ _ h => h.elim)))
              clear hf5
              unfold Fails
              go_wp2_with (fail)
              exact ⟨rfl, LabelPost.bad HLP.out rfl HF5.out⟩
            | ok xm =>
              obtain ⟨x, m⟩ := xm
              have hm := escP_ok he
              have hl2 : lbl (s.drop a) a [] = lbl (s.drop (a1 + m)) (a1 + m) (bs ++ [x]) := HL1.out.trans (by
                rw [hbs, lbl_esc _ _ _ he, List.drop_drop]
                congr 2; omega)
              have hmle : a1 + m ≤ s.length ∧ 1 ≤ m := by simp at hm; omega
              have HL2 := Ho.mk hl2; have HE := Ho.mk he; have HESC := Ho.mk hesc; have HM := Ho.mk hmle
              clear he hesc hbs hbad hl2 hm hmle
              go_wp2_with (fail)
              have c0' : (wr.drewN n1).cell? ⟨p, 0, none⟩ = some (.string t) := c0
              have c1' : (wr.drewN n1).cell? ⟨p, 1, none⟩ = some (.int .i64 (a1 : Int)) := c1
              go_quiet (fail)
              go_wp2_with (fail)
              refine (HESC.out (wr.drewN (n1 + nq)) HP.out hlt hs1).mono ?_
              clear HESC
              intro r w5 hpo
              unfold EscPost at hpo
              rw [HE.out] at hpo
              obtain ⟨rfl, hp5, hf5⟩ := hpo
              have hrow5 : w5.ownsRow w.heap.size 5 1 (.slice bao bs.length bcap) bs.length (Lib.byteCells bs) := row_fr (w := wr.drewN (n1 + nq)) hrow hf5 (fun k c fz hk _ hc => by
                have : k = p := hk
                subst this
                have h : (wr.drewN (n1 + nq)).heap[k]? = _ := HP.out
                rw [h] at hc; cases hc)
              have HF5 := Ho.mk ((HF.out.drewN (n1 + nq)).trans hf5)
              have HP5 := Ho.mk hp5
              clear hf5 hp5 hrow HP HF
              go_wp2_with (at_builtin; refine wpList_append_own _ rfl _ _ 53 rfl w.heap.size 5 i0 (.int .u8 0) 1 1 Try.underlying53 hi hz0 hz1 hz2 rfl (by decide) _ _ _ rfl (hrow5.alloc _) ⟨w5.heap.size, 0, none⟩ 1 1 [.int .u8 (x.toNat : Int)] rfl rfl (cell_one_new _ _ _) (by simp [Value.oneCell']) (by simp only [maxLen]; omega) (by omega) (by have := HF5.out.size; simp; omega) ?_; intro v' w6 hown' hgrow _)
              have hf6 : Fr (fun k => (Value.slice bao bs.length bcap).ownBlock = some k) w5 w6 := ((Fr.refl _ w5).alloc _).grown hgrow (fun k hk => .inr hk)
              have hnp : ∀ k, (Value.slice bao bs.length bcap).ownBlock = some k → w.heap.size ≤ k ∧ k ≠ p := fun k hk => own_far hrow5 HP5.out k hk
              have HP6 := Ho.mk (show PBlk w6 p s (a1 + m) lv from hf6.block _ _ HP5.out (fun h => (hnp p h).2 rfl))
              have HF6 := Ho.mk (HF5.out.call hf6 (fun k _ hk => .inl (hnp k hk).1))
              have HOW6 := Ho.mk hown'
              clear hf6 hnp hown' hgrow hrow5 HP5 HF5
              go_wp2_with (fail)
              go_roundw
              case rel => exact ⟨a1 + m, bs ++ [x], by omega, HM.out.1, HL2, by have := HM.out.2; simp; omega, HP6, by have h := HOW6.out; simpa [Lib.byteCells] using h, HF6⟩
              case measure => rw [HP6.out.atOf, PBlk.atOf (show PBlk wr p s a1 lv from HPW.out)]; have := HM.out; omega
          · have k5 : ((cb.toNat : Int) == 92) = false := by
              rw [beq_eq_false_iff_ne]; intro h; exact hbs (UInt8.toNat_inj.1 (by show cb.toNat = 92; omega))
            have HL2 := Ho.mk (HL1.out.trans (lbl_char _ _ _ HNE.out hbad hbs))
            clear hbs hbad
            go_wp2_with (fail)
            have c0' : (wr.drewN n1).cell? ⟨p, 0, none⟩ = some (.string t) := c0
            have c1' : (wr.drewN n1).cell? ⟨p, 1, none⟩ = some (.int .i64 (a1 : Int)) := c1
            go_quiet (fail)
            have hrow5 : ((wr.drewN n1).drewN nq).ownsRow w.heap.size 5 1 (.slice bao bs.length bcap) bs.length (Lib.byteCells bs) := hrow
            have HF5 := Ho.mk ((HF.out.drewN n1).drewN nq)
            have HP5 := Ho.mk (show PBlk ((wr.drewN n1).drewN nq) p s a1 lv from HP.out)
            obtain ⟨w5, hw5⟩ : ∃ w5, (wr.drewN n1).drewN nq = w5 := ⟨_, rfl⟩
            rw [hw5] at hrow5 HF5 HP5 ⊢
            clear hw5 hrow HP HF c0 c1 f1 c0' c1'
            go_wp2_with (at_builtin; refine wpList_append_own _ rfl _ _ 53 rfl w.heap.size 5 i0 (.int .u8 0) 1 1 Try.underlying53 hi hz0 hz1 hz2 rfl (by decide) _ _ _ rfl (hrow5.alloc _) ⟨w5.heap.size, 0, none⟩ 1 1 [.int .u8 (cb.toNat : Int)] rfl rfl (cell_one_new _ _ _) (by simp [Value.oneCell']) (by simp only [maxLen]; omega) (by omega) (by have := HF5.out.size; simp; omega) ?_; intro v' w6 hown' hgrow _; have hf6 : Fr (fun k => (Value.slice bao bs.length bcap).ownBlock = some k) w5 w6 := ((Fr.refl _ w5).alloc _).grown hgrow (fun k hk => .inr hk); have hnp : ∀ k, (Value.slice bao bs.length bcap).ownBlock = some k → w.heap.size ≤ k ∧ k ≠ p := fun k hk => own_far hrow5 HP5.out k hk; have hp6 : PBlk w6 p s a1 lv := hf6.block _ _ HP5.out (fun h => (hnp p h).2 rfl); have c6 : w6.cell? ⟨p, 1, none⟩ = some (.int .i64 (a1 : Int)) := blk_cell hp6 1; have f6 : w6.frozen? ⟨p, 1, none⟩ = false := blk_free hp6 1; have HF6 := Ho.mk (HF5.out.call hf6 (fun k _ hk => .inl (hnp k hk).1)); have HOW6 := Ho.mk hown'; have HP6 := Ho.mk hp6; clear hf6 hnp hown' hgrow hp6)
            go_roundw
            case rel =>
              refine ⟨a1 + 1, bs ++ [cb], by omega, by omega, HL2, by simp; omega, ⟨blk_set HP6.out 1 _⟩, ?_, ⟨HF6.out.set (p := ⟨p, 1, none⟩) (.inr rfl) _⟩⟩
              have h := row_fr HOW6.out ((Fr.refl (fun k => k = p) w6).set (p := ⟨p, 1, none⟩) (.inr rfl) (.int .i64 ((a1 : Int) + 1))) (fun k c fz hk _ hc => by
                have : k = p := hk
                subst this
                have h := HP6.out
                unfold PBlk at h
                rw [h] at hc; cases hc)
              simpa [Lib.byteCells] using h
            case measure => rw [show atOf (w6.setCell ⟨p, 1, none⟩ (.int .i64 ((a1 : Int) + 1))) p = a1 + 1 from PBlk.atOf (s := s) (lv := lv) (blk_set HP6.out 1 _), PBlk.atOf (show PBlk wr p s a1 lv from HPW.out)]; omega
      · have hfin : lbl (s.drop a) a [] = .ok (bs, s.drop a1, a1) := by
          rw [HLB.out]
          by_cases hlt : a1 < s.length
          · have hd : s.getD a1 0 = 46 := by
              by_cases h : s.getD a1 0 = 46
              · exact h
              · exact absurd ⟨hlt, h⟩ hgo
            have hd2 : s[a1] = 46 := by simpa [List.getD_eq_getElem?_getD, hlt] using hd
            rw [List.drop_eq_getElem_cons hlt, hd2]
            exact lbl_dot _ _ _
          · rw [List.drop_eq_nil_of_le (by omega)]; rfl
        have HFIN := Ho.mk hfin
        clear hfin HLB
        by_cases hlt : a1 < s.length
        case' pos =>
          have hd : s.getD a1 0 = 46 := by
            by_cases h : s.getD a1 0 = 46
            · exact h
            · exact absurd ⟨hlt, h⟩ hgo
          have hd2 : s[a1] = 46 := by simpa [List.getD_eq_getElem?_getD, hlt] using hd
          have hta : a1 < t.size := by rw [HTZ.out]; exact hlt
          have hg : t[a1] = 46 := by rw [← hd2]; have := HT.out; subst this; rfl
          have k0 : decide ((a1 : Int) < (t.size : Int)) = true := decide_eq_true (by omega)
          have k0' : decide (a1 < t.size) = true := decide_eq_true hta
          clear hd hd2 hgo
          go_wp2_with (fail)
          go_quiet (fail)
        case' neg =>
          have k0 : decide ((a1 : Int) < (t.size : Int)) = false := decide_eq_false (by have := HTZ.out; omega)
          have k0' : decide (a1 < t.size) = false := decide_eq_false (by have := HTZ.out; omega)
          clear hgo
          go_wp2_with (fail)
          go_quiet (fail)
        all_goals
          have hrow5 : (wr.drewN nq).ownsRow w.heap.size 5 1 (.slice bao bs.length bcap) bs.length (Lib.byteCells bs) := hrow
          have HF5 := Ho.mk (HF.out.drewN nq)
          have HP5 := Ho.mk (show PBlk (wr.drewN nq) p s a1 lv from HP.out)
          obtain ⟨w5, hw5⟩ : ∃ w5, wr.drewN nq = w5 := ⟨_, rfl⟩
          rw [hw5] at hrow5 HF5 HP5 ⊢
          have c1' : w5.cell? ⟨p, 1, none⟩ = some (.int .i64 (a1 : Int)) := blk_cell HP5.out 1
          have f1' : w5.frozen? ⟨p, 1, none⟩ = false := blk_free HP5.out 1
          clear hw5 hrow HP HF c0 c1 f1
          by_cases hlong : 63 < bs.length
          · have k2 : decide ((63 : Int) < (bs.length : Int)) = true := decide_eq_true (by omega)
            have k2' : decide (63 < bs.length) = true := decide_eq_true hlong
            have HLP := Ho.mk (show labelP (s.drop a) a = .error (3, a) by have h := HFIN.out; rw [HD.out] at h ⊢; exact labelP_long h0 h hlong)
            clear hlong
            go_wp2_with (fail)
            refine (fails_calls _ _ _ _).mono ?_
            rintro r w' ⟨rfl, rfl⟩
            exact ⟨rfl, LabelPost.bad HLP.out rfl HF5.out⟩
          · have k2 : decide ((63 : Int) < (bs.length : Int)) = false := decide_eq_false (by omega)
            have k2' : decide (63 < bs.length) = false := decide_eq_false hlong
            have HLP := Ho.mk (show labelP (s.drop a) a = .ok (bs, (s.drop a1).drop 1, a1 + 1) by have h := HFIN.out; rw [HD.out] at h ⊢; exact labelP_ok h0 h (by omega))
            clear hlong
            go_wp2_with (fail)
            have hp6 : PBlk (w5.setCell ⟨p, 1, none⟩ (.int .i64 ((a1 : Int) + 1))) p s (a1 + 1) lv := blk_set HP5.out 1 _
            have hf6 : Fr (fun k => k = p) w5 (w5.setCell ⟨p, 1, none⟩ (.int .i64 ((a1 : Int) + 1))) := (Fr.refl (fun k => k = p) w5).set (p := ⟨p, 1, none⟩) (.inr rfl) _
            generalize w5.setCell ⟨p, 1, none⟩ (.int .i64 ((a1 : Int) + 1)) = w6 at *
            have hrow6 : w6.ownsRow w.heap.size 5 1 (.slice bao bs.length bcap) bs.length (Lib.byteCells bs) := row_fr hrow5 hf6 (fun k c fz hk _ hc => by
              have : k = p := hk
              subst this
              have h : w5.heap[k]? = _ := HP5.out
              rw [h] at hc; cases hc)
            have hf7 : Fr (fun k => k = p) w w6 := HF5.out.trans hf6
            have hown6 : w6.ownsRow B 9 1 lv acc.length (acc.map str) := row_fr HOWN.out hf7 (fun k c fz hk _ hc => by
              have : k = p := hk
              subst this
              have h : w.heap[k]? = _ := HB.out
              rw [h] at hc; cases hc)
            obtain ⟨lao, lcap, hlv⟩ := own_shape hown6
            have hcv : (convert 53 9 (.slice bao bs.length bcap)).run Try.prog w6.drew = .ok (.string (mk bs)) w6.drew := conv_row (B := w.heap.size) (w := w6.drew) hrow6
            subst hlv
            have c2 : w6.cell? ⟨p, 2, none⟩ = some (.slice lao acc.length lcap) := blk_cell hp6 2
            have c3 : w6.drew.cell? ⟨p, 2, none⟩ = some (.slice lao acc.length lcap) := c2
            have c4 : (w6.alloc (.cells #[.string (mk bs)] 9)).drew.cell? ⟨p, 2, none⟩ = some (.slice lao acc.length lcap) := blk_cell (blk_old hp6 _) 2
            have hB6 : B ≤ w6.heap.size := Nat.le_trans HBB.out hf7.size
            obtain ⟨js, hjs, hjz0, hjz1, hjz2⟩ := info_parts infoStr
            have hfar := fun k hk => own_far2 hown6 hp6 k hk
            have hown7 : (w6.alloc (.cells #[.string (mk bs)] 9)).drew.ownsRow B 9 1 (.slice lao acc.length lcap) acc.length (acc.map str) := (hown6.alloc _).drew
            have HP7 := Ho.mk hp6; have HF8 := Ho.mk hf7; have HFAR := Ho.mk hfar
            clear hp6 hf6 hrow5 hrow6 hf7 hown6 HF5 HP5 c1' f1' hfar
            go_region_law
              ((refine step_append_lies _ (by rfl) _ _ _ (by rfl) B 9 js _ 1 16 Try.underlying22 hjs hjz0 hjz1 hjz2 rfl (by omega) (.slice lao acc.length lcap) acc.length (acc.map str) (by rfl) hown7 ⟨w6.heap.size, 0, none⟩ 1 1 [.string (mk bs)] (by rfl) (by rfl) (World.news_of_block (cs := #[.string (mk bs)]) (t := 9) (fr := (0, 0)) (heap_alloc_new w6 _)) (by simp [Value.oneCell']) (by omega) (by simp only [maxLen]; omega) (by omega) (by simp; omega) (w6.heap.size + 1) (by simp) ?_; intro gg gcap w8 hown8 hgrow8 hat hlt8; have hp8 : PBlk w8 p s (a1 + 1) (.slice lao acc.length lcap) := (hgrow8.block p (by have := lt_of_blk HP7.out; simp; omega) (fun e => HFAR.out p e.symm rfl)).trans (blk_old HP7.out _); have c8 : w8.cell? ⟨p, 2, none⟩ = some (.slice lao acc.length lcap) := blk_cell hp8 2; have f8 : w8.frozen? ⟨p, 2, none⟩ = false := blk_free hp8 2; have HP8 := Ho.mk hp8; have HG8 := Ho.mk hgrow8; have HO8 := Ho.mk hown8; clear hp8 hgrow8 hown8 hat hlt8))
            all_goals
              go_end0
              exact LabelPost.good HLP.out HP8.out HO8.out ((((HF8.out.mono (S' := fun k => k = p ∨ (Value.slice lao acc.length lcap).ownBlock = some k) (fun _ _ h => .inl h)).alloc _).drew).grown HG8.out (fun k hk => .inr (.inr hk)))
end Go.Proofs.Ytcmiidklddnfhaa
