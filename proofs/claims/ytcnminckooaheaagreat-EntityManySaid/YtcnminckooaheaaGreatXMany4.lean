/- EntityMany: the walk through the law's own code. -/
import Derived.Test.YtcnminckooaheaaGreatXMany3
namespace Go.Xec
open Go.Proofs

noncomputable def fr1 (n : Int) (wn : Nat) (i : Nat) : Fr := (((T.nil.set 0 (.int .i64 n)).set 3 (.bool true)).set 4 (.ptr wn 0)).set 5 (.int .i64 (i : Int))
noncomputable def fr2 (n : Int) (wn : Nat) (i : Nat) : Fr := (((T.nil.set 0 (.int .i64 n)).set 3 (.bool true)).set 4 (.ptr wn 0)).set 6 (.int .i64 (i : Int))
theorem mp_u4 : MP.underlying 4 = some .bool := by kernel_rfl
theorem mp_dTh : pureA Tryz.prog (.build 38 #[(2, .const (.int .i64 2)), (4, .const (.string ⟨#[120]⟩))]) [.int .i64 2, .str [120]] = some dTh := by kernel_rfl
theorem WOk.up {h : T ABlk} {m m' wn k : Nat} (hw : WOk ⟨h, m⟩ wn k) (hle : m ≤ m') : WOk ⟨h, m'⟩ wn k := by
  obtain ⟨hlt, wc, th, h1, h2, h3, h4⟩ := hw
  refine ⟨Nat.lt_of_lt_of_le hlt hle, wc, th, h1, h2, h3, ?_⟩
  obtain h0 | ⟨β, tc, he, hne, hβ, hb, hid, hall⟩ := h4
  · exact Or.inl h0
  · exact Or.inr ⟨β, tc, he, hne, Nat.lt_of_lt_of_le hβ hle, hb, hid, hall⟩

def sndC : Code → Code
  | .seq _ b => b
  | c => c
noncomputable def restCode : Code := match Tryz.f4.body with
  | some c => sndC (sndC (sndC (sndC (sndC (sndC c)))))
  | none => .skip

/-- The law's second half: the numbers, one behind the other, and how many there are. -/
theorem many_rest {N wn : Nat} {h : T ABlk} {m : Nat} {fr : Fr} (hN : N ≤ 220) (hw : WOk ⟨h, m⟩ wn (min N 200)) (hle : Le (fr1 N wn N) fr) :
    Ek Tryz.prog manyCall Tryz.f4.ntmps restCode fr ⟨h, m⟩ fun ex fr st => (ex = .normal ∨ ex = .ret) ∧ ∃ v, resultA Tryz.prog fr st Tryz.f4.results.toList = some v ∧ v = .bool true := by
  refine Ek.weaken hle ?_
  clear hle
  have hw0 := hw
  obtain ⟨hlt, wc, th, h1, h2, h3, h4⟩ := hw
  simp only at hlt h1
  generalize hK : min N 200 = K at h2 h4 hw0
  have hlen : ∀ (x : Operand) (st0 : St) (nm : Nat), stepA Tryz.prog manyCall nm st0 (.call { callee := .builtin .len, args := #[x], argTypes := #[40] }) [th] = some (.int .i64 K, st0) := by
    intro x st0 nm
    obtain ⟨rfl, rfl⟩ | ⟨β, tc, rfl, _⟩ := h4
    · exact st_len_nil mp_e40
    · exact st_len mp_e40
  refine Ek.seq (Ek.seq (Ek.reg ?_))
  refine SeqR.go rfl rfl rfl (st_pure rfl rfl) rfl ?_
  refine SeqR.nil ?_
  refine Ek.block ?_
  refine Ek.loop_inv (fun d fr st => ∃ j, j + d = max K 1 ∧ 1 ≤ j ∧ Le (fr2 N wn j) fr ∧ st.heap = h) ?_ (max K 1 - 1) _ _ ⟨1, by omega, by omega, Le.put (Le.put (Le.put (Le.put (Le.nil _) rfl) rfl) rfl) rfl, rfl⟩
  rintro d fr st ⟨j, hj, hj1, hle, hst⟩
  refine Ek.weaken hle ?_
  cases st with | mk hh mm
  simp only at hst
  subst hst
  refine Ek.seq (Ek.seq (Ek.reg ?_))
  refine SeqR.go rfl rfl rfl (st_pure rfl rfl) rfl ?_
  refine SeqR.go rfl rfl rfl (st_pure rfl rfl) rfl ?_
  refine SeqR.go rfl rfl rfl (st_pure rfl rfl) rfl ?_
  refine SeqR.go rfl rfl rfl (st_field mp_f46_4 rfl) rfl ?_
  refine SeqR.go rfl rfl rfl (st_load mp_a40 h1 (by decide) h3) rfl ?_
  refine SeqR.go rfl rfl rfl (hlen _ _ _) rfl ?_
  refine SeqR.go rfl rfl rfl (st_pure rfl rfl) rfl ?_
  refine SeqR.nil ?_
  by_cases hjK : j < K
  · refine Ek.condT rfl (by simp [hjK]) (Ek.skip ?_)
    refine Ek.seq (Ek.block ?_)
    obtain ⟨h0, _⟩ | ⟨β, tc, rfl, hne, hβ, hb, hid, hall⟩ := h4
    · omega
    simp only at hb
    refine Ek.seq (Ek.drw (by kernel_rfl) ?_)
    refine SeqD.go rfl rfl rfl (st_pure rfl rfl) rfl ?_
    refine SeqD.go rfl rfl rfl (st_pure rfl rfl) rfl ?_
    refine SeqD.go rfl rfl rfl (st_field mp_f46_4 rfl) rfl ?_
    refine SeqD.go rfl rfl rfl (st_load mp_a40 h1 (by decide) h3) rfl ?_
    refine SeqD.go rfl rfl rfl (st_pure rfl rfl) rfl ?_
    refine SeqD.go rfl rfl rfl (st_index mp_e40 mp_z38 (by omega) (by omega)) rfl ?_
    refine SeqD.go rfl rfl rfl (st_field mp_f38_0 rfl) rfl ?_
    refine SeqD.go rfl rfl rfl (st_load mp_a2 hb (by simp only [Int.toNat_natCast]; omega) (by rw [show 0 + (j : Int).toNat * 5 + 0 = j * 5 by simp]; exact hid j hjK)) rfl ?_
    refine SeqD.go rfl rfl rfl (st_pure rfl rfl) rfl ?_
    refine SeqD.go rfl rfl rfl (st_pure rfl rfl) rfl ?_
    refine SeqD.go rfl rfl rfl (st_field mp_f46_4 rfl) rfl ?_
    refine SeqD.go rfl rfl rfl (st_load mp_a40 h1 (by decide) h3) rfl ?_
    refine SeqD.go rfl rfl rfl (st_pure rfl rfl) rfl ?_
    refine SeqD.go rfl rfl rfl (st_sub (r := ((j - 1 : Nat) : Int)) (by rw [IntWalk.i64_in _ (by omega)]; omega)) rfl ?_
    refine SeqD.go rfl rfl rfl (st_index mp_e40 mp_z38 (by omega) (by omega)) rfl ?_
    refine SeqD.go rfl rfl rfl (st_field mp_f38_0 rfl) rfl ?_
    refine SeqD.go rfl rfl rfl (st_load mp_a2 hb (by simp only [Int.toNat_natCast]; omega) (by rw [show 0 + ((j - 1 : Nat) : Int).toNat * 5 + 0 = (j - 1) * 5 by simp]; exact hid (j - 1) (by omega))) rfl ?_
    refine SeqD.go rfl rfl rfl (st_add (r := 3 + (j : Int)) (by rw [IntWalk.i64_in _ (by omega)]; omega)) rfl ?_
    refine SeqD.go rfl rfl rfl (st_pure rfl rfl) rfl ?_
    refine SeqD.nil ?_
    refine Ek.condF rfl (by simp) (Ek.skip ?_)
    refine Ek.reg ?_
    refine SeqR.go rfl rfl rfl (st_pure rfl rfl) rfl ?_
    refine SeqR.go rfl rfl rfl (st_add (r := ((j + 1 : Nat) : Int)) (by rw [IntWalk.i64_in _ (by omega)]; omega)) rfl ?_
    refine SeqR.go rfl rfl rfl (st_pure rfl rfl) rfl ?_
    refine SeqR.nil ?_
    exact ⟨d - 1, by omega, j + 1, by omega, by omega, Le.put (Le.put (Le.put (Le.put (Le.nil _) rfl) rfl) rfl) rfl, rfl⟩
  · refine Ek.condF rfl (by simp [hjK]) (Ek.exit ?_)
    simp only [AEx.then, AEx.inBlock, if_true]
    have hmin : (if (200 : Int) < (N : Int) then (200 : Int) else (N : Int)) = (K : Int) := by
      subst hK; split <;> omega
    refine Ek.seq (Ek.reg ?_)
    refine SeqR.go rfl rfl rfl (st_pure rfl rfl) rfl ?_
    refine SeqR.go rfl rfl rfl (st_pure rfl rfl) rfl ?_
    refine SeqR.go rfl rfl rfl (st_pure rfl rfl) rfl ?_
    refine SeqR.go rfl rfl rfl (st_pure rfl rfl) rfl ?_
    refine SeqR.go rfl rfl rfl (st_field mp_f46_4 rfl) rfl ?_
    refine SeqR.go rfl rfl rfl (st_load mp_a40 h1 (by decide) h3) rfl ?_
    refine SeqR.go rfl rfl rfl (hlen _ _ _) rfl ?_
    refine SeqR.go rfl rfl rfl (st_pure rfl rfl) rfl ?_
    refine SeqR.go rfl rfl rfl (st_pure rfl rfl) rfl ?_
    refine SeqR.go rfl rfl rfl (st_pure rfl rfl) rfl ?_
    refine SeqR.go rfl rfl rfl (st_pickT rfl) rfl ?_
    refine SeqR.go rfl rfl rfl (st_pure rfl rfl) rfl ?_
    refine SeqR.go rfl (by rw [hmin]; simp) rfl (st_pure rfl rfl) rfl ?_
    refine SeqR.go rfl (by rw [hmin]; simp) rfl (st_pure rfl rfl) rfl ?_
    refine SeqR.go rfl (by rw [hmin]; simp) rfl (st_field mp_f46_1 rfl) rfl ?_
    refine SeqR.go rfl (by rw [hmin]; simp) rfl (st_load mp_a2 h1 (by decide) h2) rfl ?_
    refine SeqR.go rfl (by rw [hmin]; simp) rfl (st_pure rfl rfl) rfl ?_
    refine SeqR.go rfl (by rw [hmin]; simp) rfl (st_pure rfl rfl) rfl ?_
    refine SeqR.go rfl (by rw [hmin]; simp) rfl (st_add (r := 3 + (K : Int)) (by rw [hmin, IntWalk.i64_in _ (by omega)])) rfl ?_
    refine SeqR.go rfl (by rw [hmin]; simp) rfl (st_pure rfl rfl) rfl ?_
    refine SeqR.go rfl rfl rfl (st_pickT (by rw [hmin]; simp)) rfl ?_
    refine SeqR.go rfl rfl rfl (st_pure rfl rfl) rfl ?_
    refine SeqR.nil ?_
    exact Ek.ret ⟨Or.inr rfl, _, rfl, by simp⟩

theorem many_body (n : Int) : ∃ loops v st', bodyA Tryz.prog manyCall loops Tryz.f4 [.int .i64 n] ⟨.nil, 0⟩ = some (v, st') ∧ v = .bool true := by
  refine bodyA_of_ek rfl rfl rfl ?_
  refine Ek.seq (Ek.reg ?_)
  refine SeqR.go rfl rfl rfl (st_pure rfl rfl) rfl ?_
  refine SeqR.nil ?_
  refine Ek.seq (Ek.reg ?_)
  refine SeqR.go rfl rfl rfl (st_call rfl rfl rfl) rfl ?_
  refine SeqR.go rfl rfl rfl (st_pure rfl rfl) rfl ?_
  refine SeqR.nil ?_
  refine Ek.seq (Ek.seq (Ek.reg ?_))
  refine SeqR.go rfl rfl rfl (st_pure rfl rfl) rfl ?_
  refine SeqR.go rfl rfl rfl (st_pure rfl rfl) rfl ?_
  refine SeqR.nil ?_
  refine Ek.condF rfl rfl (Ek.skip ?_)
  refine Ek.seq (Ek.seq (Ek.reg ?_))
  refine SeqR.go rfl rfl rfl (st_pure rfl rfl) rfl ?_
  refine SeqR.go rfl rfl rfl (st_pure rfl rfl) rfl ?_
  refine SeqR.go rfl rfl rfl (st_pure rfl rfl) rfl ?_
  by_cases hn : n < 0
  · refine SeqR.hop rfl (by simp [hn]) rfl ?_
    refine SeqR.hop rfl (by simp [hn]) rfl ?_
    refine SeqR.go rfl rfl rfl (st_pickT (by simp [hn])) rfl ?_
    refine SeqR.nil ?_
    refine Ek.condT rfl rfl ?_
    refine Ek.seq (Ek.reg ?_)
    refine SeqR.go rfl rfl rfl (st_pure rfl rfl) rfl ?_
    refine SeqR.go rfl rfl rfl (st_pure rfl rfl) rfl ?_
    refine SeqR.nil ?_
    refine Ek.ret ⟨Or.inr rfl, _, rfl, rfl⟩
  refine SeqR.go rfl (by simp [hn]) rfl (st_pure rfl rfl) rfl ?_
  refine SeqR.go rfl (by simp [hn]) rfl (st_pure rfl rfl) rfl ?_
  refine SeqR.go rfl rfl rfl (st_pickF (by simp [hn])) rfl ?_
  refine SeqR.nil ?_
  by_cases hb : n > 220
  · refine Ek.condT rfl (by simp [hb]) ?_
    refine Ek.seq (Ek.reg ?_)
    refine SeqR.go rfl rfl rfl (st_pure rfl rfl) rfl ?_
    refine SeqR.go rfl rfl rfl (st_pure rfl rfl) rfl ?_
    refine SeqR.nil ?_
    refine Ek.ret ⟨Or.inr rfl, _, rfl, rfl⟩
  refine Ek.condF rfl (by simp [hb]) (Ek.skip ?_)
  obtain ⟨v1, st1, h1, wn, st2, h2, hw⟩ := new_ex
  refine Ek.seq (Ek.reg ?_)
  have e1 : manyCall 16 [] ⟨.nil, 12⟩ = some (v1, st1) := (manyCall_run rfl rfl).trans h1
  have e2 : manyCall 10 [v1] ⟨st1.heap, st1.nxt + 1⟩ = some (.ptr wn 0, st2) := (manyCall_run rfl rfl).trans h2
  refine SeqR.go rfl rfl rfl (st_call rfl rfl e1) rfl ?_
  refine SeqR.go rfl rfl rfl (st_call rfl rfl e2) rfl ?_
  refine SeqR.go rfl rfl rfl (st_pure rfl rfl) rfl ?_
  refine SeqR.nil ?_
  obtain ⟨N, rfl⟩ : ∃ N : Nat, n = (N : Int) := ⟨n.toNat, by omega⟩
  have hN : N ≤ 220 := by omega
  cases st2 with | mk h0 m0
  refine Ek.seq (Ek.seq (Ek.reg ?_))
  refine SeqR.go rfl rfl rfl (st_pure rfl rfl) rfl ?_
  refine SeqR.nil ?_
  refine Ek.block ?_
  refine Ek.loop_inv (fun d fr st => ∃ i, i + d = N ∧ Le (fr1 N wn i) fr ∧ WOk st wn (min i 200)) ?_ N _ _ ⟨0, by omega, Le.put (Le.put (Le.put (Le.put (Le.nil _) rfl) rfl) rfl) rfl, ?_⟩
  rotate_left
  · exact WOk.up hw (by simp only; omega)
  · rintro d fr st ⟨i, hi, hle, hwi⟩
    refine Ek.weaken hle ?_
    cases st with | mk h1 m1
    refine Ek.seq (Ek.seq (Ek.reg ?_))
    refine SeqR.go rfl rfl rfl (st_pure rfl rfl) rfl ?_
    refine SeqR.go rfl rfl rfl (st_pure rfl rfl) rfl ?_
    refine SeqR.go rfl rfl rfl (st_pure rfl rfl) rfl ?_
    refine SeqR.nil ?_
    by_cases hiN : i < N
    · refine Ek.condT rfl (by simp [hiN]) (Ek.skip ?_)
      refine Ek.seq (Ek.block ?_)
      refine Ek.seq (Ek.reg ?_)
      refine SeqR.go rfl rfl rfl (st_pure rfl rfl) rfl ?_
      refine SeqR.go rfl rfl rfl (st_pure rfl mp_dTh) rfl ?_
      obtain ⟨st3, hc, hw3⟩ := call_make (st := ⟨h1, m1 + 1 + 1 + 1 + 1 + 1 + 1⟩) (by omega) (hwi.up (by omega))
      cases st3 with | mk h3 m3
      refine SeqR.go rfl rfl rfl (st_call rfl rfl hc) rfl ?_
      refine SeqR.go rfl rfl rfl (st_pure rfl rfl) rfl ?_
      refine SeqR.go rfl rfl rfl (st_pure rfl rfl) rfl ?_
      refine SeqR.go rfl rfl rfl (st_nebool mp_u4) rfl ?_
      refine SeqR.nil ?_
      refine Ek.condF rfl (by simp; omega) (Ek.skip ?_)
      refine Ek.reg ?_
      refine SeqR.go rfl rfl rfl (st_pure rfl rfl) rfl ?_
      refine SeqR.go rfl rfl rfl (st_add (r := ((i + 1 : Nat) : Int)) (by rw [IntWalk.i64_in _ (by omega)]; omega)) rfl ?_
      refine SeqR.go rfl rfl rfl (st_pure rfl rfl) rfl ?_
      refine SeqR.nil ?_
      refine ⟨d - 1, by omega, i + 1, by omega, Le.put (Le.put (Le.put (Le.put (Le.nil _) rfl) rfl) rfl) rfl, ?_⟩
      have : min (i + 1) 200 = min (min i 200 + 1) 200 := by omega
      rw [this]
      exact hw3.up (by omega)
    · refine Ek.condF rfl (by simp [hiN]) (Ek.exit ?_)
      have hi' : i = N := by omega
      subst hi'
      clear hi hiN hle
      simp only [AEx.then, AEx.inBlock, if_true]
      refine many_rest hN (hwi.up (m' := m1 + 1 + 1 + 1) (by omega)) (Le.put (Le.put (Le.put (Le.put (Le.nil _) rfl) rfl) rfl) rfl)
end Go.Xec
