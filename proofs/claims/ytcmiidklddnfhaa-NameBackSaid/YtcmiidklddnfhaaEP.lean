/-
  package name: digit, fails, escaped.
-/
import Derived.Test.YtcmiidklddnfhaaPN
import Derived.Test.YtcmiidklddnfhaaKT
namespace Go.Proofs.Ytcmiidklddnfhaa
open Go.RowKit
theorem digit_calls (c : UInt8) (w : World) :
    Calls Try.prog 52 #[.int .u8 c.toNat] w fun e w' => e = .returned (.bool (isDig c)) ∧ w' = w := by
  have hc : c.toNat < 256 := c.toNat_lt
  have h1 : isDig c = (decide (48 ≤ c.toNat) && decide (c.toNat ≤ 57)) := by
    unfold isDig; simp [UInt8.le_iff_toNat_le]
  have H1 := Ho.mk h1
  clear h1
  by_cases k1 : 48 ≤ c.toNat
  · by_cases k2 : c.toNat ≤ 57
    · have d1 : decide ((48 : Int) ≤ (c.toNat : Int)) = true := decide_eq_true (by omega)
      have d1' : decide (48 ≤ c.toNat) = true := decide_eq_true k1
      have d2 : decide ((c.toNat : Int) ≤ 57) = true := decide_eq_true (by omega)
      have d2' : decide (c.toNat ≤ 57) = true := decide_eq_true k2
      clear k1 k2
      go_enter Try.func52, Try.ntmps52
      go_wp2_with (fail)
      go_ret
      exact ⟨by rw [H1.out, d1', d2']; rfl, rfl⟩
    · have d1 : decide ((48 : Int) ≤ (c.toNat : Int)) = true := decide_eq_true (by omega)
      have d1' : decide (48 ≤ c.toNat) = true := decide_eq_true k1
      have d2 : decide ((c.toNat : Int) ≤ 57) = false := decide_eq_false (by omega)
      have d2' : decide (c.toNat ≤ 57) = false := decide_eq_false k2
      clear k1 k2
      go_enter Try.func52, Try.ntmps52
      go_wp2_with (fail)
      go_ret
      exact ⟨by rw [H1.out, d1', d2']; rfl, rfl⟩
  · have d1 : decide ((48 : Int) ≤ (c.toNat : Int)) = false := decide_eq_false (by omega)
    have d1' : decide (48 ≤ c.toNat) = false := decide_eq_false k1
    clear k1
    go_enter Try.func52, Try.ntmps52
    go_wp2_with (fail)
    go_ret
    exact ⟨by rw [H1.out, d1']; rfl, rfl⟩
theorem fails_calls (p : Addr) (e a : Int) (w : World) :
    Calls Try.prog 44 #[.pointer (some p), .int .i64 e, .int .i64 a] w fun r w' => r = .panicked [{ v := .iface 65 (.agg #[.int .i64 e, .int .i64 a]), recovered := false }] ∧ w' = w := by
  go_enter Try.func44, Try.ntmps44
  go_wp2_with (fail)
  exact ⟨rfl, rfl, rfl⟩
/-- The fault that ends the reading. -/
def Fails (e : Int) (a : Int) : Ending := .panicked [{ v := .iface 65 (.agg #[.int .i64 e, .int .i64 a]), recovered := false }]
/-- A reader: the text, the place, the labels. -/
def PBlk (w : World) (p : Nat) (s : Bs) (a : Nat) (lv : Value) : Prop := w.heap[p]? = some (.cells #[.string (mk s), .int .i64 (a : Int), lv] 71 (0, 0))
/-- What stands behind a backslash is read, or it is a fault. -/
def EscPost (s : Bs) (a p : Nat) (lv : Value) (w : World) (e : Ending) (w' : World) : Prop :=
  match escP (s.drop (a + 1)) with
  | .error (er, o) => e = Fails er ((a + o : Nat) : Int) ∧ Fr nob w w'
  | .ok (x, m) => e = .returned (.int .u8 x.toNat) ∧ PBlk w' p s (a + m) lv ∧ Fr (fun k => k = p) w w'
set_option maxHeartbeats 2000000 in
set_option maxRecDepth 100000 in
theorem escaped_calls (s : Bs) (a p : Nat) (lv : Value) (w : World) (hb : PBlk w p s a lv) (ha : a < s.length) (hs : s.length ≤ 100000) :
    Calls Try.prog 49 #[.pointer (some ⟨p, 0, none⟩)] w (EscPost s a p lv w) := by
  have c0 : w.cell? ⟨p, 0, none⟩ = some (.string (mk s)) := blk_cell hb 0
  have c1 : w.cell? ⟨p, 1, none⟩ = some (.int .i64 (a : Int)) := blk_cell hb 1
  have f1 := blk_free hb 1
  obtain ⟨r, hr⟩ : ∃ r, s.drop (a + 1) = r := ⟨_, rfl⟩
  have hrl : r.length = s.length - (a + 1) := by rw [← hr]; simp
  have hx : (mk s).extract (a + 1) (mk s).size = mk r := by
    apply Go.WideShapes.bytes_inj; rw [Lib.extract_data, ← hr]; simp [mk]
    exact List.take_of_length_le (by simp [ByteArray.size])
  have hsz : (mk s).size = s.length := mk_size s
  have hpost : ∀ e w', EscPost s a p lv w e w' = (match escP r with
    | .error (er, o) => e = Fails er ((a + o : Nat) : Int) ∧ Fr nob w w'
    | .ok (x, m) => e = .returned (.int .u8 x.toNat) ∧ PBlk w' p s (a + m) lv ∧ Fr (fun k => k = p) w w') := fun e w' => by unfold EscPost; rw [hr]
  generalize EscPost s a p lv w = R at *
  obtain ⟨t, ht⟩ : ∃ t, mk s = t := ⟨_, rfl⟩
  rw [ht] at c0 hx hsz
  obtain ⟨u, hu⟩ : ∃ u, mk r = u := ⟨_, rfl⟩
  rw [hu] at hx
  have husz : u.size = r.length := by rw [← hu, mk_size]
  have hul : u.toList = r := by rw [← hu, Lib.toList_data]; rfl
  have HPOST := Ho.mk hpost; have HX := Ho.mk hx; have HSZ := Ho.mk hsz
  have hta : a + 1 ≤ t.size := by omega
  have htb : t.size ≤ 100000 := by omega
  have hset : ∀ (W : World) (m : Nat), (∃ k, W = w.drewN k) → PBlk (W.setCell ⟨p, 1, none⟩ (.int .i64 ((a + m : Nat) : Int))) p s (a + m) lv ∧ Fr (fun k => k = p) w (W.setCell ⟨p, 1, none⟩ (.int .i64 ((a + m : Nat) : Int))) := by
    rintro W m ⟨k, rfl⟩
    exact ⟨blk_set (show (w.drewN k).heap[p]? = _ from hb) 1 _, ((Fr.refl (fun k => k = p) w).drewN k).set (p := ⟨p, 1, none⟩) (.inr rfl) _⟩
  have HSET := Ho.mk hset
  clear hb hpost hr hx ht hsz hset
  cases r with
  | nil =>
    have k1 : (u.toList == []) = true := by rw [hul]; rfl
    have k1' : u.toList.isEmpty = true := by rw [hul]; rfl
    have hx2 := HX.out
    clear hul husz hu hrl
    go_enter Try.func49, Try.ntmps49
    go_wp2_with (fail)
    refine (fails_calls _ _ _ _).mono ?_
    rintro r w' ⟨rfl, rfl⟩
    refine ⟨rfl, ?_⟩
    rw [HPOST.out]
    exact ⟨rfl, Fr.refl _ _⟩
  | cons x y =>
    have k1 : (u.toList == []) = false := by rw [hul]; rfl
    have k1' : u.toList.isEmpty = false := by rw [hul]; rfl
    have hx2 := HX.out
    have hp0 : 0 < u.size := by rw [husz]; simp
    have hg0 : u[0] = x := by subst hu; rfl
    have hxc : x.toNat < 256 := x.toNat_lt
    have HHU := Ho.mk hu; have HUSZ := Ho.mk husz
    clear hul hu husz
    by_cases hd : isDig x = false
    · have hdig := digit_calls x w
      rw [hd] at hdig
      by_cases hb : x < 33 ∨ 126 < x
      · have hesc : escP (x :: y) = .error (4, 1) := by rw [escP_nd hd, if_pos hb]
        have HESC := Ho.mk hesc
        have hb' : x.toNat < 33 ∨ 126 < x.toNat := hb
        clear hesc hb hd hrl
        have hwa : IntKind.i64.wrap ((a : Int) + 1) = (a : Int) + 1 := IntWalk.i64_in _ (by omega)
        rcases hb' with hb | hb
        · have k2 : decide ((x.toNat : Int) < 33) = true := decide_eq_true (by omega)
          have k2' : decide (x.toNat < 33) = true := decide_eq_true hb
          clear hb
          go_enter Try.func49, Try.ntmps49
          go_wp2_with (fail)
          refine hdig.mono ?_
          clear hdig
          rintro r w' ⟨rfl, rfl⟩
          go_wp2_with (fail)
          refine (fails_calls _ _ _ _).mono ?_
          rintro r w' ⟨rfl, rfl⟩
          refine ⟨rfl, ?_⟩
          rw [HPOST.out, HESC.out]
          exact ⟨rfl, Fr.refl _ _⟩
        · have k2 : decide ((x.toNat : Int) < 33) = false := decide_eq_false (by omega)
          have k2' : decide (x.toNat < 33) = false := decide_eq_false (by omega)
          have k3 : decide ((126 : Int) < (x.toNat : Int)) = true := decide_eq_true (by omega)
          have k3' : decide (126 < x.toNat) = true := decide_eq_true hb
          clear hb
          go_enter Try.func49, Try.ntmps49
          go_wp2_with (fail)
          refine hdig.mono ?_
          clear hdig
          rintro r w' ⟨rfl, rfl⟩
          go_wp2_with (fail)
          refine (fails_calls _ _ _ _).mono ?_
          rintro r w' ⟨rfl, rfl⟩
          refine ⟨rfl, ?_⟩
          rw [HPOST.out, HESC.out]
          exact ⟨rfl, Fr.refl _ _⟩
      · have hesc : escP (x :: y) = .ok (x, 2) := by rw [escP_nd hd, if_neg hb]
        have HESC := Ho.mk hesc
        have hb1 : ¬ x.toNat < 33 := fun h => hb (.inl h)
        have hb2 : ¬ 126 < x.toNat := fun h => hb (.inr h)
        have k2 : decide ((x.toNat : Int) < 33) = false := decide_eq_false (by omega)
        have k2' : decide (x.toNat < 33) = false := decide_eq_false (by omega)
        have k3 : decide ((126 : Int) < (x.toNat : Int)) = false := decide_eq_false (by omega)
        have k3' : decide (126 < x.toNat) = false := decide_eq_false (by omega)
        clear hesc hb hd hb1 hb2 hrl
        go_enter Try.func49, Try.ntmps49
        go_wp2_with (fail)
        refine hdig.mono ?_
        clear hdig
        rintro r w' ⟨rfl, rfl⟩
        go_wp2_with (fail)
        rw [HPOST.out, HESC.out]
        exact ⟨rfl, HSET.out _ 2 ⟨0, rfl⟩⟩
    · have hd : isDig x = true := by simpa using hd
      have hdig := digit_calls x w
      rw [hd] at hdig
      have HD := Ho.mk hd
      have hxr : 48 ≤ x.toNat ∧ x.toNat ≤ 57 := by
        unfold isDig at hd; simp [UInt8.le_iff_toNat_le] at hd; exact hd
      clear hd
      match y, HUSZ, HHU, HPOST, hrl with
      | [], HUSZ, HHU, HPOST, hrl =>
        have HESC := Ho.mk (escP_d1 HD.out)
        have k2 : decide ((u.size : Int) < 3) = true := decide_eq_true (by rw [HUSZ.out]; simp)
        have k2' : decide (u.size < 3) = true := decide_eq_true (by rw [HUSZ.out]; simp)
        clear hrl
        go_enter Try.func49, Try.ntmps49
        go_wp2_with (fail)
        refine hdig.mono ?_
        clear hdig
        rintro r w' ⟨rfl, rfl⟩
        go_wp2_with (fail)
        refine (fails_calls _ _ _ _).mono ?_
        rintro r w' ⟨rfl, rfl⟩
        refine ⟨rfl, ?_⟩
        rw [HPOST.out, HESC.out]
        exact ⟨rfl, Fr.refl _ _⟩
      | [b], HUSZ, HHU, HPOST, hrl =>
        have HESC := Ho.mk (escP_d2 (b := b) HD.out)
        have k2 : decide ((u.size : Int) < 3) = true := decide_eq_true (by rw [HUSZ.out]; simp)
        have k2' : decide (u.size < 3) = true := decide_eq_true (by rw [HUSZ.out]; simp)
        clear hrl
        go_enter Try.func49, Try.ntmps49
        go_wp2_with (fail)
        refine hdig.mono ?_
        clear hdig
        rintro r w' ⟨rfl, rfl⟩
        go_wp2_with (fail)
        refine (fails_calls _ _ _ _).mono ?_
        rintro r w' ⟨rfl, rfl⟩
        refine ⟨rfl, ?_⟩
        rw [HPOST.out, HESC.out]
        exact ⟨rfl, Fr.refl _ _⟩
      | b :: c :: z, HUSZ, HHU, HPOST, hrl =>
        have hu3 : 3 ≤ u.size := by rw [HUSZ.out]; simp
        have k2 : decide ((u.size : Int) < 3) = false := decide_eq_false (by omega)
        have k2' : decide (u.size < 3) = false := decide_eq_false (by omega)
        have hp1 : 1 < u.size := by omega
        have hp2 : 2 < u.size := by omega
        have hg1 : u[1] = b := by have := HHU.out; subst this; rfl
        have hg2 : u[2] = c := by have := HHU.out; subst this; rfl
        have hbc : b.toNat < 256 := b.toNat_lt
        have hcc : c.toNat < 256 := c.toNat_lt
        have hdigb := digit_calls b w
        have hdigc := digit_calls c w
        clear hrl
        by_cases hdb : isDig b = true
        · by_cases hdc : isDig c = true
          · have hbr : 48 ≤ b.toNat ∧ b.toNat ≤ 57 := by
              unfold isDig at hdb; simp [UInt8.le_iff_toNat_le] at hdb; exact hdb
            have hcr : 48 ≤ c.toNat ∧ c.toNat ≤ 57 := by
              unfold isDig at hdc; simp [UInt8.le_iff_toNat_le] at hdc; exact hdc
            rw [hdb] at hdigb; rw [hdc] at hdigc
            have hesc : escP (x :: b :: c :: z) = if 255 < 100 * (x.toNat - 48) + 10 * (b.toNat - 48) + (c.toNat - 48) then .error (5, 0) else .ok (UInt8.ofNat (100 * (x.toNat - 48) + 10 * (b.toNat - 48) + (c.toNat - 48)), 4) := by
              rw [escP_d3 HD.out, if_pos ⟨hdb, hdc⟩]
            have HESC := Ho.mk hesc
            obtain ⟨d0, hd0⟩ : ∃ d, x.toNat - 48 = d := ⟨_, rfl⟩
            obtain ⟨d1, hd1⟩ : ∃ d, b.toNat - 48 = d := ⟨_, rfl⟩
            obtain ⟨d2, hd2⟩ : ∃ d, c.toNat - 48 = d := ⟨_, rfl⟩
            rw [hd0, hd1, hd2] at HESC
            have q0 : (x.toNat : Int) - 48 = (d0 : Int) := by omega
            have q1 : (b.toNat : Int) - 48 = (d1 : Int) := by omega
            have q2 : (c.toNat : Int) - 48 = (d2 : Int) := by omega
            have b0 : d0 ≤ 9 := by omega
            have b1 : d1 ≤ 9 := by omega
            have b2 : d2 ≤ 9 := by omega
            clear hesc hd0 hd1 hd2 hxr hbr hcr hdb hdc
            obtain ⟨nn, hnn⟩ : ∃ n, 100 * d0 + 10 * d1 + d2 = n := ⟨_, rfl⟩
            have qn : 100 * (d0 : Int) + 10 * (d1 : Int) + (d2 : Int) = (nn : Int) := by omega
            rw [hnn] at HESC
            have v0 : IntKind.u8.wrap (d0 : Int) = (d0 : Int) := IntWalk.u8_in _ (by omega)
            have v1 : IntKind.u8.wrap (d1 : Int) = (d1 : Int) := IntWalk.u8_in _ (by omega)
            have v2 : IntKind.u8.wrap (d2 : Int) = (d2 : Int) := IntWalk.u8_in _ (by omega)
            have i0 : IntKind.i64.wrap (d0 : Int) = (d0 : Int) := IntWalk.i64_in _ (by omega)
            have i1 : IntKind.i64.wrap (d1 : Int) = (d1 : Int) := IntWalk.i64_in _ (by omega)
            have i2 : IntKind.i64.wrap (d2 : Int) = (d2 : Int) := IntWalk.i64_in _ (by omega)
            have i3 : IntKind.i64.wrap (100 * (d0 : Int)) = 100 * (d0 : Int) := IntWalk.i64_in _ (by omega)
            have i4 : IntKind.i64.wrap (10 * (d1 : Int)) = 10 * (d1 : Int) := IntWalk.i64_in _ (by omega)
            have i5 : IntKind.i64.wrap (100 * (d0 : Int) + 10 * (d1 : Int)) = 100 * (d0 : Int) + 10 * (d1 : Int) := IntWalk.i64_in _ (by omega)
            have i6 : IntKind.i64.wrap (nn : Int) = (nn : Int) := IntWalk.i64_in _ (by omega)
            have hn99 : nn ≤ 999 := by omega
            clear hnn
            have HV := Ho.mk (And.intro v0 (And.intro v1 v2))
            go_enter Try.func49, Try.ntmps49
            go_wp2_with (fail)
            refine hdig.mono ?_
            clear hdig
            rintro r w' ⟨rfl, rfl⟩
            go_wp2_with (fail)
            refine hdigb.mono ?_
            clear hdigb
            rintro r w' ⟨rfl, rfl⟩
            go_wp2_with (fail)
            refine hdigc.mono ?_
            clear hdigc
            rintro r w' ⟨rfl, rfl⟩
            go_wp2_with (fail)
            go_quiet (fail)
            have c1' : (w'.drewN nq).cell? ⟨p, 1, none⟩ = some (.int .i64 (a : Int)) := c1
            have f1' : (w'.drewN nq).frozen? ⟨p, 1, none⟩ = false := f1
            have hfd := (Fr.refl nob w').drewN nq
            have HSET2 := Ho.mk (fun m => HSET.out (w'.drewN nq) m ⟨nq, rfl⟩)
            have HFD := Ho.mk hfd
            clear hfd HSET c0 c1 f1
            generalize w'.drewN nq = w2 at *
            by_cases hbig : 255 < nn
            · have k4 : decide ((255 : Int) < (nn : Int)) = true := decide_eq_true (by omega)
              have k4' : decide (255 < nn) = true := decide_eq_true hbig
              have HESC2 := Ho.mk (HESC.out.trans (if_pos hbig))
              clear hbig HESC
              go_wp2_with (fail)
              refine (fails_calls _ _ _ _).mono ?_
              rintro r w' ⟨rfl, rfl⟩
              refine ⟨rfl, ?_⟩
              rw [HPOST.out, HESC2.out]
              exact ⟨rfl, HFD.out⟩
            · have k4 : decide ((255 : Int) < (nn : Int)) = false := decide_eq_false (by omega)
              have k4' : decide (255 < nn) = false := decide_eq_false (by omega)
              have HESC2 := Ho.mk (HESC.out.trans (if_neg hbig))
              have hn255 : nn ≤ 255 := by omega
              clear hbig HESC
              go_wp2_with (fail)
              rw [HPOST.out, HESC2.out]
              refine ⟨?_, HSET2.out 4⟩
              show Ending.returned (.int .u8 (nn : Int)) = _
              congr 2
              simp; omega
          · have hdc : isDig c = false := by simpa using hdc
            rw [hdb] at hdigb; rw [hdc] at hdigc
            have HESC := Ho.mk (show escP (x :: b :: c :: z) = .error (4, 0) by rw [escP_d3 HD.out, if_neg (by rw [hdc]; simp)])
            clear hdb hdc
            go_enter Try.func49, Try.ntmps49
            go_wp2_with (fail)
            refine hdig.mono ?_
            clear hdig
            rintro r w' ⟨rfl, rfl⟩
            go_wp2_with (fail)
            refine hdigb.mono ?_
            clear hdigb
            rintro r w' ⟨rfl, rfl⟩
            go_wp2_with (fail)
            refine hdigc.mono ?_
            clear hdigc
            rintro r w' ⟨rfl, rfl⟩
            go_wp2_with (fail)
            refine (fails_calls _ _ _ _).mono ?_
            rintro r w' ⟨rfl, rfl⟩
            refine ⟨rfl, ?_⟩
            rw [HPOST.out, HESC.out]
            exact ⟨rfl, Fr.refl _ _⟩
        · have hdb : isDig b = false := by simpa using hdb
          rw [hdb] at hdigb
          have HESC := Ho.mk (show escP (x :: b :: c :: z) = .error (4, 0) by rw [escP_d3 HD.out, if_neg (by rw [hdb]; simp)])
          clear hdb
          go_enter Try.func49, Try.ntmps49
          go_wp2_with (fail)
          refine hdig.mono ?_
          clear hdig
          rintro r w' ⟨rfl, rfl⟩
          go_wp2_with (fail)
          refine hdigb.mono ?_
          clear hdigb
          rintro r w' ⟨rfl, rfl⟩
          go_wp2_with (fail)
          refine (fails_calls _ _ _ _).mono ?_
          rintro r w' ⟨rfl, rfl⟩
          refine ⟨rfl, ?_⟩
          rw [HPOST.out, HESC.out]
          exact ⟨rfl, Fr.refl _ _⟩
end Go.Proofs.Ytcmiidklddnfhaa
