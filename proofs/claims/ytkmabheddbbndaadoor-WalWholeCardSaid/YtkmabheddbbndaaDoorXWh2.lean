/- A header that stands is read back. -/
import Derived.Test.YtkmabheddbbndaaDoorXWh1
namespace Go.Xec
open Go.Proofs
theorem putB_nat (n i : Nat) : (putB n i).toNat = n / 2 ^ (8 * i) % 256 := by unfold putB; rw [UInt8.toNat_ofNat']
theorem get4_put {n : Nat} (h : n < 4294967296) (r : By) : get4 (put4 n ++ r) = n := by
  have e : put4 n = [putB n 0, putB n 1, putB n 2, putB n 3] := rfl
  unfold get4
  simp only [getN, e, List.cons_append, List.nil_append, List.getD_cons_zero, List.getD_cons_succ, putB_nat]
  omega
theorem put4_drop (n k : Nat) (r : By) : (put4 n ++ r).drop (4 + k) = r.drop k := by
  have e : put4 n = [putB n 0, putB n 1, putB n 2, putB n 3] := rfl
  rw [e, show 4 + k = k + 1 + 1 + 1 + 1 by omega]
  simp only [List.cons_append, List.nil_append, List.drop_succ_cons]
theorem flat_drop : ∀ (is : List Nat) (k i : Nat) (r : By), is[k]? = some i → ∃ q, (is.flatMap put4 ++ r).drop (4 * k) = put4 i ++ q
  | [], k, i, r, h => by simp at h
  | a :: is, 0, i, r, h => by
    simp at h; subst h
    exact ⟨is.flatMap put4 ++ r, by simp⟩
  | a :: is, k + 1, i, r, h => by
    obtain ⟨q, hq⟩ := flat_drop is k i r (by simpa using h)
    refine ⟨q, ?_⟩
    rw [List.flatMap_cons, List.append_assoc, show 4 * (k + 1) = 4 + 4 * k by omega, put4_drop, hq]
theorem hdrB_form (is : List Nat) (cs : List By) : ∃ z, hdrB is cs = put4 1819894636 ++ (put4 is.length ++ (put4 (crcF cs).toNat ++ (is.flatMap put4 ++ z))) := by
  refine ⟨List.replicate (508 - (hdr0 is cs).length) 0 ++ put4 (crcM 0 (hdr1 is cs)).toNat, ?_⟩
  unfold hdrB hdr1 hdr0
  simp only [List.append_assoc]
theorem hdr_0 (is : List Nat) (cs : List By) : get4 (hdrB is cs) = 1819894636 := by
  obtain ⟨z, e⟩ := hdrB_form is cs
  rw [e]; exact get4_put (by omega) _
theorem hdr_4 {is : List Nat} {cs : List By} (h : is.length ≤ 40) : get4 ((hdrB is cs).drop 4) = is.length := by
  obtain ⟨z, e⟩ := hdrB_form is cs
  rw [e, show (4 : Nat) = 4 + 0 from rfl, put4_drop, List.drop_zero]; exact get4_put (by omega) _
theorem hdr_8 (is : List Nat) (cs : List By) : (get4 ((hdrB is cs).drop 8) : Int) = crcF cs := by
  obtain ⟨z, e⟩ := hdrB_form is cs
  have hr := crcF_rng cs
  rw [e, show (8 : Nat) = 4 + (4 + 0) from rfl, put4_drop, put4_drop, List.drop_zero, get4_put (by omega)]
  omega
theorem hdr_12 {is : List Nat} {cs : List By} {k i : Nat} (h : is[k]? = some i) (hi : i < 4294967296) : get4 ((hdrB is cs).drop (12 + 4 * k)) = i := by
  obtain ⟨z, e⟩ := hdrB_form is cs
  obtain ⟨q, hq⟩ := flat_drop is k i z h
  rw [e, show 12 + 4 * k = 4 + (4 + (4 + 4 * k)) by omega, put4_drop, put4_drop, put4_drop, hq]
  exact get4_put hi _
theorem hdr_508 {is : List Nat} {cs : List By} (h : is.length ≤ 40) : (hdrB is cs).take 508 = hdr1 is cs ∧ (get4 ((hdrB is cs).drop 508) : Int) = crcM 0 (hdr1 is cs) := by
  have hl := hdr1_len (cs := cs) h
  have hr := crcM_rng 0 (hdr1 is cs)
  refine ⟨?_, ?_⟩
  · unfold hdrB; rw [← hl, List.take_left]
  · unfold hdrB
    rw [← hl, List.drop_left]
    have := get4_put (n := (crcM 0 (hdr1 is cs)).toNat) (by omega) []
    rw [List.append_nil] at this
    rw [this]; omega
theorem grpL_back {now : List By} {hb : By} {is : List Nat} {cs : List By} (hlen : cs.length = is.length) (hh : ∀ k i, is[k]? = some i → get4 (hb.drop (12 + 4 * k)) = i ∧ 48 ≤ i ∧ i < now.length) (hc : ∀ k, k < is.length → now.getD (1 + k) [] = cs.getD k []) :
    ∀ r k, k + r = is.length → grpL now hb r k (crcF (cs.take k)) (is.take k) = some (is, crcF cs)
  | 0, k, h => by
    rw [Nat.add_zero] at h
    simp only [grpL, h, List.take_length]
    rw [← hlen, List.take_length]
  | r + 1, k, h => by
    obtain ⟨i, hi⟩ : ∃ i, is[k]? = some i := ⟨is[k]'(by omega), List.getElem?_eq_getElem (by omega)⟩
    obtain ⟨e1, e2, e3⟩ := hh k i hi
    simp only [grpL, e1]
    rw [if_neg (by omega), hc k (by omega)]
    have t1 : is.take k ++ [i] = is.take (k + 1) := by rw [List.take_add_one, hi]; rfl
    have t2 : crcM (crcF (cs.take k)) (cs.getD k []) = crcF (cs.take (k + 1)) := by
      have hck : cs[k]? = some (cs.getD k []) := by rw [List.getD_eq_getElem?_getD, List.getElem?_eq_getElem (by omega)]; rfl
      rw [List.take_add_one, hck, Option.toList_some, crcF_snoc]
    rw [t1, t2]
    exact grpL_back hlen hh hc r (k + 1) (by omega)
theorem grp_back {now : List By} {is : List Nat} {cs : List By} (h0 : now.getD 0 [] = hdrB is cs) (hlen : cs.length = is.length) (h40 : is.length ≤ 40) (hi : ∀ i ∈ is, 48 ≤ i ∧ i < now.length) (hn : now.length ≤ 4096) (hc : ∀ k, k < is.length → now.getD (1 + k) [] = cs.getD k []) : grp now = is := by
  obtain ⟨q1, q2⟩ := hdr_508 (cs := cs) h40
  rw [grp_yes (by rw [h0]; exact ⟨hdr_0 is cs, by rw [hdr_4 h40]; exact h40, by rw [q1, q2]⟩), h0, hdr_4 h40]
  have := grpL_back (now := now) (hb := hdrB is cs) hlen (fun k i hk => by
    have hm := hi i (List.mem_of_getElem? hk)
    exact ⟨hdr_12 hk (by omega), hm⟩) hc is.length 0 (by omega)
  have e0 : crcF (cs.take 0) = 0 := rfl
  rw [e0, List.take_zero] at this
  rw [this]
  show (if crcF cs = (get4 ((hdrB is cs).drop 8) : Int) then is else []) = is
  rw [if_pos (hdr_8 is cs).symm]
end Go.Xec
