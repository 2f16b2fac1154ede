/-
  CopyBytes; BaseParts: the walk.
-/
import Derived.Test.YtagbgenbhbgpoaaB5
import Derived.Laws.AppendOwnNone
namespace Go.Proofs.Ytagbgenbhbgpoaa
open Go.RowKit
set_option maxRecDepth 100000 in
theorem CopyBytes_calls (v : Value) (l : List UInt8) (w : World) (hl : l.length ≤ 100000) (hv : BS w.heap.size w v l) :
    Calls Try.prog 19 #[v] w fun e w' => ∃ ao cap, e = .returned (.slice ao l.length cap) ∧ w'.ownsRow w.heap.size 5 1 (.slice ao l.length cap) l.length (Lib.byteCells l) ∧ Fr nob w w' := by
  obtain ⟨i0, hi, hz0, hz1, hz2⟩ := info_parts infoByte
  obtain ⟨a, cap, rfl, hcap, hnil, hcell⟩ := hv
  have HC := Ho.mk hcell; clear hcell
  have hm : (w.alloc (.cells #[] 5)).ownsRow w.heap.size 5 1 (.slice (some ⟨w.heap.size, 0, none⟩) 0 0) 0 [] := World.ownsRow_made w #[] 0 (Nat.le_refl _) (by decide) rfl
  cases a with
  | none =>
    obtain rfl := hnil rfl
    obtain rfl : l = [] := List.eq_nil_of_length_eq_zero (by omega)
    clear hnil hcap
    go_enter Try.func19, Try.ntmps19
    go_wp2_with (at_builtin; refine wpList_append_own_none rfl _ _ 22 rfl w.heap.size 5 i0 1 Try.underlying22 hi _ 0 [] rfl hm rfl ?_)
    go_ret
    exact ⟨_, _, rfl, hm, (Fr.refl nob w).alloc _⟩
  | some ad =>
    clear hnil
    have hcell : ∀ j u, (Lib.byteCells l)[j]? = some u → (w.alloc (.cells #[] 5)).cell? (ad.add j) = some u := by
      intro j u hj
      have hjl : j < l.length := by
        have := (List.getElem?_eq_some_iff.1 hj).1; rw [Lib.byteCells_length] at this; exact this
      obtain ⟨b, off, h, hb, h2⟩ := HC.out j hjl
      obtain rfl := Option.some.inj h
      rw [addr_add]
      have h3 := ((Fr.refl nob w).alloc (.cells #[] 5)).cell (fun h => h) h2
      rw [h3]
      simp [Lib.byteCells, hjl] at hj
      rw [hj]
    have HCE := Ho.mk hcell; clear hcell
    go_enter Try.func19, Try.ntmps19
    go_wp2_with (at_builtin; refine wpList_append_own _ rfl _ _ 22 rfl w.heap.size 5 i0 (.int .u8 0) 1 1 Try.underlying22 hi hz0 hz1 hz2 rfl (by decide) _ _ _ rfl hm ad l.length cap (Lib.byteCells l) rfl ?c0 HCE.out ?c2 ?c3 ?c4 ?c5 ?_)
    case c0 => rw [Lib.byteCells_length, Nat.mul_one]
    case c2 => intro u hu; simp [Lib.byteCells] at hu; obtain ⟨b, _, rfl⟩ := hu; rfl
    case c3 => unfold maxLen; omega
    case c4 => omega
    case c5 => simp
    intro v' w2 hown hgrow _
    have hF : Fr nob w w2 := ((Fr.refl nob w).alloc _).grown hgrow (fun k hk => .inl (own_block hm hk).1)
    obtain ⟨ao, cap', hv⟩ := own_shape hown
    have HV := Ho.mk hv; have HOW := Ho.mk hown; clear hv hown hgrow
    go_wp2
    go_ret
    refine ⟨ao, cap', ?_, ?_, hF⟩
    · show Ending.returned v' = _; rw [HV.out]
    · have h := HOW.out; rw [HV.out] at h; exact h
/-- append(v, src...), v of the call's own, src whatever bytes; at an operation with or without a guard. -/
theorem wpList_append_BS {ops : Array Oper} {rest : List Oper} {o : Oper} {a : Act} {w : World} {Q : Exit → Act → World → Prop} (hw : Region.wanted o (yielded ops a.tmps) = true) (s x : Operand)
    (ho : o.op = .call { callee := .builtin .append, args := #[s, x], argTypes := #[22, 22] })
    (base : Nat) (ao : Option Addr) (n cap : Nat) (l src : List UInt8) (hs : a.eval s = .slice ao n cap) (hown : w.ownsRow base 5 1 (.slice ao n cap) n (Lib.byteCells l))
    (B : Nat) (v : Value) (hx : a.eval x = v) (hv : BS B w v src) (h1 : n + src.length ≤ 1000000) (hbase : base ≤ w.heap.size)
    (h : ∀ ao' cap' w', w'.ownsRow base 5 1 (.slice ao' (n + src.length) cap') (n + src.length) (Lib.byteCells (l ++ src)) → w.grownBy w' (Value.slice ao n cap).ownBlock → wpList Try.prog ops Q rest (a.put o.dst (.slice ao' (n + src.length) cap')) w') :
    wpList Try.prog ops Q (o :: rest) a w := by
  obtain ⟨i0, hi, hz0, hz1, hz2⟩ := info_parts infoByte
  obtain ⟨a2, cap2, rfl, hcap, hnil, hcell⟩ := hv
  refine wpList_step fun K hK => ?_
  rw [if_pos hw]
  cases a2 with
  | none =>
    obtain rfl := hnil rfl
    obtain rfl : src = [] := List.eq_nil_of_length_eq_zero (by omega)
    have hrun := run_append_owned_none (P := Try.prog) (w := w) base 22 o.type 5 i0 1 Try.underlying22 hi _ n _ hown
    have hx' : a.eval x = .slice none 0 0 := hx
    unfold Oper.wp
    simp [execOp, ho, resolve, invoke, builtin, hs, hx', hrun, Result.andThen]
    have h2 := h ao cap w (by simpa using hown) ⟨rfl, rfl, rfl, Nat.le_refl _, fun _ _ _ => rfl⟩
    simp only [List.length_nil, Nat.add_zero] at h2
    exact hK _ _ h2
  | some ad =>
    refine wp_append_own w s x 22 ho base 5 i0 (.int .u8 0) 1 1 Try.underlying22 hi hz0 hz1 hz2 rfl (by decide) _ n _ hs hown ad src.length cap2 (Lib.byteCells src) hx (by rw [Lib.byteCells_length, Nat.mul_one]) ?_ ?_ (by unfold maxLen; omega) (by omega) hbase ?_
    · intro j u hj
      have hjl : j < src.length := by
        have := (List.getElem?_eq_some_iff.1 hj).1; rw [Lib.byteCells_length] at this; exact this
      obtain ⟨b, off, h, hb, h2⟩ := hcell j hjl
      obtain rfl := Option.some.inj h
      rw [addr_add, h2]
      simp [Lib.byteCells, hjl] at hj
      rw [hj]
    · intro u hu; simp [Lib.byteCells] at hu; obtain ⟨b, _, rfl⟩ := hu; rfl
    · intro v' w' hown' hg _
      obtain ⟨ao', cap', rfl⟩ := own_shape hown'
      refine hK _ _ (h ao' cap' w' ?_ hg)
      unfold Lib.byteCells at hown' ⊢
      rw [List.map_append]; exact hown'
theorem bytes_app (a b : List UInt8) : ((⟨a.toArray⟩ : ByteArray) ++ (⟨b.toArray⟩ : ByteArray)) = ⟨(a ++ b).toArray⟩ := by
  apply ByteArray.ext
  simp [ByteArray.data_append]
theorem toList_mk (a : List UInt8) : (⟨a.toArray⟩ : ByteArray).toList = a := by simp
theorem BS_shape {B : Nat} {w : World} {v : Value} {l : List UInt8} (h : BS B w v l) : ∃ a cap, v = .slice a l.length cap ∧ l.length ≤ cap ∧ (a = none → cap = 0) := by
  obtain ⟨a, cap, h1, h2, h3, _⟩ := h; exact ⟨a, cap, h1, h2, h3⟩
theorem BS_take {B : Nat} {w : World} {a : Option Addr} {cap : Nat} {l : List UInt8} (h : BS B w (.slice a l.length cap) l) (k : Nat) (hk : k ≤ l.length) : BS B w (.slice a k cap) (l.take k) := by
  obtain ⟨a', cap', h1, h2, h3, h4⟩ := h
  injection h1 with e1 e2 e3
  subst e1 e3
  refine ⟨a, cap, by rw [List.length_take, Nat.min_eq_left hk], by simp; omega, h3, fun i hi => ?_⟩
  have hi' : i < k := by simp at hi; omega
  obtain ⟨b, off, h5, h6, h7⟩ := h4 i (by omega)
  exact ⟨b, off, h5, h6, by rw [List.getElem_take]; exact h7⟩
theorem slice_h (a : Option Addr) (len cap k : Nat) (hk : k ≤ cap) (W : World) : (Instr.slice 22 (.slice a len cap) none (some (.int .i64 (k : Int))) none).run Try.prog W = .ok (.slice a k cap) W := by
  have hb := run_sliceBound (P := Try.prog) (w := W) .i64 (k : Int) cap .sliceAcap (by omega) (by omega)
  cases a with
  | none => simp [Instr.slice, Instr.sliceBounds, hb, go_sem]
  | some ad => simp [Instr.slice, Instr.sliceBounds, hb, go_sem]
set_option maxRecDepth 100000 in
theorem BaseParts_walk (a0 a1 : Option Addr) (cap0 cap1 : Nat) (la lb : List UInt8) (w : World) (h0 : BS w.heap.size w (.slice a0 la.length cap0) la) (h1 : BS w.heap.size w (.slice a1 lb.length cap1) lb) (m0 : la.length ≤ 9223372036854775807) (m1 : lb.length ≤ 9223372036854775807) :
    Calls Try.prog 5 #[.slice a0 la.length cap0, .slice a1 lb.length cap1] w fun e w' => e = .returned (.bool true) ∧ Below w.heap.size w w' := by
  have H0 := Ho.mk h0; have H1 := Ho.mk h1; clear h0 h1
  by_cases g0 : 1000 < la.length
  · have g0' : (1000 : Int) < la.length := by omega
    clear g0
    go_enter Try.func5, Try.ntmps5
    go_wp2_with (fail)
    refine (awake_calls _).mono ?_
    rintro e w1 ⟨rfl, hF1⟩
    go_wp2
    go_ret
    exact ⟨rfl, hF1.none_below⟩
  · have g0' : ¬ (1000 : Int) < la.length := by omega
    by_cases g1 : 1000 < lb.length
    · have g1' : (1000 : Int) < lb.length := by omega
      clear g0 g1
      go_enter Try.func5, Try.ntmps5
      go_wp2_with (fail)
      refine (awake_calls _).mono ?_
      rintro e w1 ⟨rfl, hF1⟩
      go_wp2
      go_ret
      exact ⟨rfl, hF1.none_below⟩
    · have g1' : ¬ (1000 : Int) < lb.length := by omega
      obtain ⟨a', cap', e1, hcap, hnil⟩ := BS_shape H0.out
      injection e1 with e1 e2 e3
      subst e1 e3
      have hk : (la.length / 3 * 3 : Nat) ≤ la.length := by omega
      obtain ⟨k, hk3⟩ : ∃ k, k = la.length / 3 * 3 := ⟨_, rfl⟩
      have hkI : ((la.length : Int) / 3 * 3) = (k : Int) := by omega
      have HK3 := Ho.mk hk3; clear hk3 e2 m0 m1 g0 g1
      have hk' : k ≤ la.length := by have := HK3.out; omega
      clear hk
      have hsl := slice_h a0 la.length cap0 k (by omega)
      go_enter Try.func5, Try.ntmps5
      go_wp2_with (fail)
      refine (awake_calls _).mono ?_
      rintro e w1 ⟨rfl, hF1⟩
      go_wp2_with (fail)
      have hlk : (la.take k).length = k := by rw [List.length_take]; omega
      have hb1 : BS w1.heap.size w1 (.slice a0 k cap0) (la.take k) := ((BS_take H0.out k hk').fr hF1 (fun _ _ h => h)).mono hF1.size
      have hcp := CopyBytes_calls _ (la.take k) w1 (by omega) hb1
      rw [hlk] at hcp
      refine hcp.mono ?_
      clear hcp hb1
      rintro e w2 ⟨ao, cap2, rfl, hown, hF2⟩
      have F2 : Fr nob w w2 := hF1.call hF2 (fun _ _ h => h.elim)
      have hbs : BS w.heap.size w2 (.slice a1 lb.length cap1) lb := H1.out.fr F2 (fun _ _ h => h)
      have HBS := Ho.mk hbs; have HOW := Ho.mk hown; have HLK := Ho.mk hlk; clear hbs hown hlk
      have hs2 := F2.size
      have hs1 := hF1.size
      have hs21 := hF2.size
      go_wp2_with (refine wpList_append_BS rfl (.tmp 25) (.tmp 26) rfl w1.heap.size ao k cap2 (la.take k) lb rfl HOW.out w.heap.size _ rfl HBS.out (by omega) (by omega) ?_)
      rintro ao3 cap3 w3 hown3 hg3
      have F3 : Fr nob w w3 := F2.grown hg3 (fun i hi => .inl (by have := (own_block HOW.out hi).1; omega))
      go_wp2_with (fail)
      have hlb : (la.take k ++ lb).length = k + lb.length := by rw [List.length_append, HLK.out]
      have hb3 : BS w3.heap.size w3 (.slice ao3 (k + lb.length) cap3) (la.take k ++ lb) := by
        rw [← hlb] at hown3 ⊢; exact own_BS hown3
      have h1 := Encode_calls _ (la.take k ++ lb) w3 (by omega) hb3
      have hea : enc (la.take k ++ lb) = enc (la.take k) ++ enc lb := enc_append (by rw [HLK.out, HK3.out]; omega) lb
      have hn1 := (enc_len (la.take k)).1
      have hn2 := (enc_len lb).1
      rw [HLK.out] at hn1
      rw [hea] at h1
      generalize hE1 : enc (la.take k) = E1 at *
      generalize hE2 : enc lb = E2 at *
      have HE1 := Ho.mk hE1; have HE2 := Ho.mk hE2; clear hE1 hE2 hea hlb hb3 hown3
      refine h1.mono ?_
      clear h1
      rintro e w4 ⟨rfl, hF4⟩
      have F4 : Fr nob w w4 := F3.call hF4 (fun _ _ h => h.elim)
      go_wp2_with (fail)
      have h2 := Encode_calls _ (la.take k) w4 (by rw [HLK.out]; omega) (by
        have := ((BS_take H0.out k hk').fr F4 (fun _ _ h => h)).mono F4.size
        exact this)
      rw [HE1.out] at h2
      refine h2.mono ?_
      clear h2
      rintro e w5 ⟨rfl, hF5⟩
      have F5 : Fr nob w w5 := F4.call hF5 (fun _ _ h => h.elim)
      go_wp2_with (fail)
      have h3 := Encode_calls _ lb w5 (by omega) ((H1.out.fr F5 (fun _ _ h => h)).mono F5.size)
      rw [HE2.out] at h3
      refine h3.mono ?_
      clear h3
      rintro e w6 ⟨rfl, hF6⟩
      have F6 : Fr nob w w6 := F5.call hF6 (fun _ _ h => h.elim)
      go_wp2
      go_ret
      refine ⟨?_, F6.none_below⟩
      show Ending.returned (Value.bool (E1 ++ E2 == ({ data := E1.toArray } ++ { data := E2.toArray } : ByteArray).toList)) = _
      rw [bytes_app, toList_mk, beq_self_eq_true]
end Go.Proofs.Ytagbgenbhbgpoaa
