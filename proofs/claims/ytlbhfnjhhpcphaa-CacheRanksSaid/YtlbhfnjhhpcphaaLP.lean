/-
  CacheRanks, plain.
-/
import Derived.Test.YtlbhfnjhhpcphaaLB
import Derived.Test.YtlbhfnjhhpcphaaPC
namespace Go.Proofs.Ytlbhfnjhhpcphaa
theorem live_one (m n : Int) (T : Th) : (⟨m, n, [T]⟩ : Ca).live T.name T.kind = if n < T.fin then some T else none := by
  unfold Ca.live Ca.find
  rw [List.find?_cons_of_pos (by rw [isK_iff]; rfl)]
  by_cases h : n < T.fin <;> simp [Option.filter, h]
theorem live_other (m n : Int) (T : Th) (a : Bs) (k : Int) (h : T.key ≠ (a, k)) : (⟨m, n, [T]⟩ : Ca).live a k = none := by
  unfold Ca.live Ca.find
  rw [List.find?_cons_of_neg (by rw [isK_iff]; exact h)]; rfl
theorem outL_one (T : Th) : outL [T] T.name T.kind = [] := by
  unfold outL
  rw [List.filter_cons_of_neg (by simp [isK_iff, Th.key])]; rfl
theorem outL_miss (T : Th) (a : Bs) (k : Int) (h : T.key ≠ (a, k)) : outL [T] a k = [T] := by
  unfold outL
  rw [List.filter_cons_of_pos (by
    cases he : isK a k T with
    | false => rfl
    | true => exact absurd (isK_iff.1 he) h)]; rfl
def setD (ttl : Int) (d : Bs) : CSet := ⟨aN, 1, 1, ttl, [d]⟩
theorem setD_ok (ttl : Int) (d : Bs) (h : 0 ≤ ttl ∧ ttl < 2147483648) (hd : d.length ≤ 65535) : (setD ttl d).ok :=
  ⟨show (labels aN).2 = 0 by decide, show (0 : Int) ≤ 1 ∧ (1 : Int) ≤ 65535 by decide, show (0 : Int) ≤ 1 ∧ (1 : Int) ≤ 65535 by decide, h, show 1 ≤ 1 ∧ 1 ≤ 64 by decide, fun x hx => by rw [show (setD ttl d).data = [d] from rfl] at hx; simp at hx; subst hx; exact hd, show [d].Nodup by simp⟩
theorem setD_put (ttl : Int) (d : Bs) (rank now : Int) (h : 0 ≤ ttl ∧ ttl < 2147483648) (hd : d.length ≤ 65535) (hr : 1 ≤ rank ∧ rank ≤ 3) (hn : timeOk now) : putOk (setD ttl d) rank now :=
  ⟨setD_ok ttl d h hd, rfl, show (1 : Int) ≠ 0 by decide, hr, hn⟩
theorem low_aN : low aN = aN := by decide
/-- Put into an empty cache. -/
theorem put_new {ttl rank : Int} {d : Bs} (h : 1 ≤ ttl ∧ ttl ≤ 1000) (hd : d.length ≤ 65535) (hr : 1 ≤ rank ∧ rank ≤ 3) :
    (Ca.new 3).putSet (setD ttl d) rank 50 = (⟨3, 50, [⟨aN, 1, 50 + ttl, some (setD ttl d, rank)⟩]⟩, true, 0) := by
  rw [putSet_ok (setD_put ttl d rank 50 (by omega) hd hr (by decide)), if_neg (show ¬ (setD ttl d).ttl = 0 from fun e => by have : ttl = 0 := e; omega)]
  have h0 : ((Ca.new 3).to 50).live (low (setD ttl d).name) (setD ttl d).typ = none := rfl
  rw [h0, if_neg (by simp), show low (setD ttl d).name = aN from low_aN]
  have e1 : (if rank < 3 then (Ca.new 3).to 50 else { (Ca.new 3).to 50 with L := outL (Ca.new 3).L aN 0 }) = (⟨3, 50, []⟩ : Ca) := by split <;> rfl
  rw [e1]
  rfl
/-- Put onto one of the same key. -/
theorem put_on {fin other rank r n : Int} {s : CSet} {d : Bs} (h : 1 ≤ other ∧ other ≤ 1000) (hd : d.length ≤ 65535) (hr : 1 ≤ rank ∧ rank ≤ 3) (hr2 : r ≤ 3) (hn : timeOk n) (h50 : 50 ≤ n) :
    (⟨3, 50, [⟨aN, 1, fin, some (s, r)⟩]⟩ : Ca).putSet (setD other d) rank n = if n < fin ∧ rank < r then (⟨3, n, [⟨aN, 1, fin, some (s, r)⟩]⟩, false, 0) else (⟨3, n, [⟨aN, 1, n + other, some (setD other d, rank)⟩]⟩, true, 0) := by
  rw [putSet_ok (setD_put other d rank n (by omega) hd hr hn), if_neg (show ¬ (setD other d).ttl = 0 from fun e => by have : other = 0 := e; omega)]
  have eto : (⟨3, 50, [⟨aN, 1, fin, some (s, r)⟩]⟩ : Ca).to n = ⟨3, n, [⟨aN, 1, fin, some (s, r)⟩]⟩ := by
    unfold Ca.to; rw [show max (⟨3, 50, [⟨aN, 1, fin, some (s, r)⟩]⟩ : Ca).now n = n from Int.max_eq_right h50]
  rw [eto, show low (setD other d).name = aN from low_aN]
  have hl := live_one 3 n ⟨aN, 1, fin, some (s, r)⟩
  have hl : (⟨3, n, [⟨aN, 1, fin, some (s, r)⟩]⟩ : Ca).live aN (setD other d).typ = if n < fin then some ⟨aN, 1, fin, some (s, r)⟩ else none := hl
  rw [hl]
  have hout0 : outL [(⟨aN, 1, fin, some (s, r)⟩ : Th)] aN 0 = [⟨aN, 1, fin, some (s, r)⟩] := outL_miss _ _ _ (by simp [Th.key])
  have hout1 : outL [(⟨aN, 1, fin, some (s, r)⟩ : Th)] aN 1 = [] := outL_one ⟨aN, 1, fin, some (s, r)⟩
  have e1 : (if rank < 3 then (⟨3, n, [⟨aN, 1, fin, some (s, r)⟩]⟩ : Ca) else { (⟨3, n, [⟨aN, 1, fin, some (s, r)⟩]⟩ : Ca) with L := outL (⟨3, 50, [⟨aN, 1, fin, some (s, r)⟩]⟩ : Ca).L aN 0 }) = ⟨3, n, [⟨aN, 1, fin, some (s, r)⟩]⟩ := by
    split
    · rfl
    · show (⟨3, n, outL [(⟨aN, 1, fin, some (s, r)⟩ : Th)] aN 0⟩ : Ca) = _
      rw [hout0]
  rw [e1]
  have e2 : (⟨3, n, [⟨aN, 1, fin, some (s, r)⟩]⟩ : Ca).putT ⟨aN, (setD other d).typ, (⟨3, n, [⟨aN, 1, fin, some (s, r)⟩]⟩ : Ca).now + (setD other d).ttl, some (setD other d, rank)⟩ = ⟨3, n, [⟨aN, 1, n + other, some (setD other d, rank)⟩]⟩ := by
    unfold Ca.putT
    show (⟨3, n, if (3 : Int) < ((outL [(⟨aN, 1, fin, some (s, r)⟩ : Th)] aN 1 ++ [_]).length : Int) then _ else outL [(⟨aN, 1, fin, some (s, r)⟩ : Th)] aN 1 ++ [_]⟩ : Ca) = _
    rw [hout1]; rfl
  rw [e2]
  by_cases h1 : n < fin
  · by_cases h2 : rank < r
    · rw [if_pos ⟨by omega, by rw [if_pos h1]; simp [Th.blocks, h2]⟩, if_pos ⟨h1, h2⟩]
    · rw [if_neg (fun hh => by rw [if_pos h1] at hh; simp [Th.blocks, h2] at hh), if_neg (fun hh => h2 hh.2)]
  · rw [if_neg (fun hh => by rw [if_neg h1] at hh; simp at hh), if_neg (fun hh => h1 hh.1)]
theorem get_one {n fin r rank : Int} {s : CSet} (hn : timeOk n) (h : n < fin) :
    (⟨3, n, [⟨aN, 1, fin, some (s, r)⟩]⟩ : Ca).get aN 1 rank n = (⟨3, n, [⟨aN, 1, fin, some (s, r)⟩]⟩, if rank ≤ r then ⟨1, { s with ttl := fin - n }, fin - n⟩ else Fd.zero) := by
  have eto : (⟨3, n, [⟨aN, 1, fin, some (s, r)⟩]⟩ : Ca).to n = ⟨3, n, [⟨aN, 1, fin, some (s, r)⟩]⟩ := by
    unfold Ca.to; rw [show max (⟨3, n, [⟨aN, 1, fin, some (s, r)⟩]⟩ : Ca).now n = n from Int.max_eq_right (Int.le_refl _)]
  have hl : (⟨3, n, [⟨aN, 1, fin, some (s, r)⟩]⟩ : Ca).live aN 1 = some ⟨aN, 1, fin, some (s, r)⟩ := (live_one 3 n ⟨aN, 1, fin, some (s, r)⟩).trans (if_pos h)
  have hl0 : (⟨3, n, [⟨aN, 1, fin, some (s, r)⟩]⟩ : Ca).live aN 0 = none := live_other _ _ _ _ _ (by simp [Th.key])
  by_cases hr : rank ≤ r
  · rw [get_first (t := ⟨aN, 1, fin, some (s, r)⟩) ⟨by decide, hn⟩ (by rw [eto, low_aN, hl]) (by simp [Th.serves, hr]), eto, if_pos hr]
    unfold Ca.use
    show ((⟨3, n, outL [(⟨aN, 1, fin, some (s, r)⟩ : Th)] aN 1 ++ [_]⟩ : Ca), _) = _
    rw [show outL [(⟨aN, 1, fin, some (s, r)⟩ : Th)] aN 1 = [] from outL_one ⟨aN, 1, fin, some (s, r)⟩]; rfl
  · rw [get_none ⟨by decide, hn⟩ (by rw [eto, low_aN, hl]; simp [Option.filter, Th.serves, hr]) (by rw [eto, low_aN, hl0]), eto, if_neg hr]
end Go.Proofs.Ytlbhfnjhhpcphaa
