/- The error of a group that is full; errors.Is of it; by contract. -/
import Derived.Test.YtkmabheddbbndaaDoorXWf7
namespace Go.Xec
open Go.Proofs
section
variable {h h' hf : T ABlk} {l d W M β m m' q : Nat} {v : AV} {D : Dk} {G : Lg} {own own' od : Nat → Prop} {bs b : By}
theorem tF72_1 : fieldT Tryd.prog 72 1 = some (1, 29, 1) := by kernel_rfl
theorem tF88_1 : fieldT Tryd.prog 88 1 = some (1, 29, 1) := by kernel_rfl
theorem gerr_build (n k : Int) : pureA Tryd.prog (.build 72 #[(0, .tmp 46), (1, .tmp 47)]) [.int .i64 n, .ifc 41 (.int .i64 k)] = some (.agg [.int .i64 n, .ifc 41 (.int .i64 k)]) := by kernel_rfl
theorem w_putFull (A : Log h l d G own) (B : Bd h m) (s : SecV h v bs) {i : Nat} (hi : 48 ≤ i) (hi2 : i < G.disk.now.length) (hno : getW i G.waits = none) (h40 : 40 ≤ G.waits.length) :
    ∃ v' h' m', TC 11 [.ptr l 0, .int .i64 (i : Int), v] ⟨h, m⟩ = some (v', ⟨h', m'⟩) ∧ (∃ q, v' = .ifc 70 (.ptr q 0) ∧ Row h' q [.int .i64 G.waits.length, .ifc 41 (.int .i64 2)] ∧ Bd h' m' ∧ m ≤ m' ∧ ∀ γ, γ < m → h'.get γ = h.get γ) := by
  have A0 := A
  obtain ⟨W, M, od, A, rfl⟩ := A
  have R := A.row
  have hlm := B.row R
  obtain ⟨kw, X, Xw⟩ := A.waits
  have hWm := B.mapI X
  have hkl := Xw.len
  obtain ⟨β, cp, rfl, s⟩ := s
  refine top_fn Tryd.func11 (by rfl) rfl rfl (by rfl) ?_
  obtain ⟨g1, g2⟩ | ⟨v0, b0, g1, g2, g3⟩ := Xw.get i
  rotate_left
  · rw [hno] at g2; cases g2
  refine Ek.seq ?_
  refine Ek.reg ?_
  refine SeqR.go rfl rfl rfl (st_pure rfl rfl) rfl ?_
  refine SeqR.nil ?_
  refine Ek.seq ?_
  refine Ek.seq ?_
  refine Ek.reg ?_
  refine SeqR.go rfl rfl rfl (st_pure rfl rfl) rfl ?_
  refine SeqR.go rfl rfl rfl (st_pure rfl rfl) rfl ?_
  refine SeqR.cal rfl rfl rfl rfl rfl (w_home A0) ?_
  rintro _ _ m1 ⟨rfl, rfl, hm1⟩
  refine ⟨_, rfl, ?_⟩
  refine SeqR.go rfl rfl rfl (st_pure rfl rfl) rfl ?_
  refine SeqR.go rfl rfl rfl (st_pure rfl rfl) rfl ?_
  refine SeqR.go rfl (by simp; omega) rfl (st_pure rfl rfl) rfl ?_
  refine SeqR.go rfl (by simp; omega) rfl (st_len te33) rfl ?_
  refine SeqR.go rfl (by simp; omega) rfl (st_pure rfl rfl) rfl ?_
  refine SeqR.go rfl rfl rfl (st_pickF (by simp; omega)) rfl ?_
  refine SeqR.nil ?_
  refine Ek.condF rfl rfl ?_
  refine Ek.skip ?_
  refine Ek.seq ?_
  refine Ek.seq ?_
  refine Ek.reg ?_
  refine SeqR.go rfl rfl rfl (st_pure rfl rfl) rfl ?_
  refine SeqR.go rfl rfl rfl (st_pure rfl rfl) rfl ?_
  refine SeqR.go rfl rfl rfl (fld tF67_1) rfl ?_
  refine SeqR.go rfl rfl rfl (ld ta65) rfl ?_
  refine SeqR.go rfl rfl rfl (st_pure rfl rfl) rfl ?_
  refine SeqR.go rfl rfl rfl (st_lookup_no tm65 (tk3 _) tv33 X g1) rfl ?_
  refine SeqR.go rfl rfl rfl (st_pure rfl rfl) rfl ?_
  refine SeqR.go rfl rfl rfl (st_pure rfl rfl) rfl ?_
  refine SeqR.go rfl rfl rfl (st_pure rfl rfl) rfl ?_
  refine SeqR.go rfl rfl rfl (st_pure rfl rfl) rfl ?_
  refine SeqR.go rfl rfl rfl (st_pure rfl rfl) rfl ?_
  refine SeqR.nil ?_
  refine Ek.seq ?_
  refine Ek.reg ?_
  refine SeqR.go rfl rfl rfl (st_pure rfl rfl) rfl ?_
  refine SeqR.go rfl rfl rfl (st_pure rfl rfl) rfl ?_
  refine SeqR.go rfl rfl rfl (st_pure rfl rfl) rfl ?_
  refine SeqR.go rfl rfl rfl (st_pure rfl rfl) rfl ?_
  refine SeqR.go rfl rfl rfl (st_pure rfl rfl) rfl ?_
  refine SeqR.go rfl rfl rfl (fld tF67_1) rfl ?_
  refine SeqR.go rfl rfl rfl (ld ta65) rfl ?_
  refine SeqR.go rfl rfl rfl (st_lenmap tu65 X) rfl ?_
  refine SeqR.go rfl rfl rfl (st_pure rfl rfl) rfl ?_
  refine SeqR.go rfl rfl rfl (st_pickT rfl) rfl ?_
  refine SeqR.nil ?_
  refine Ek.condT rfl (by simp; omega) ?_
  refine Ek.seq ?_
  refine Ek.reg ?_
  refine SeqR.go rfl rfl rfl (st_pure rfl rfl) rfl ?_
  refine SeqR.go rfl rfl rfl (st_pure rfl rfl) rfl ?_
  refine SeqR.go rfl rfl rfl (fld tF67_1) rfl ?_
  refine SeqR.go rfl rfl rfl (ld ta65) rfl ?_
  refine SeqR.go rfl rfl rfl (st_lenmap tu65 X) rfl ?_
  refine SeqR.go rfl rfl rfl (mkif tu41) rfl ?_
  refine SeqR.go rfl rfl rfl (st_pure rfl (gerr_build _ _)) rfl ?_
  refine SeqR.go rfl rfl rfl st_box rfl ?_
  refine SeqR.go rfl rfl rfl (mkif tu70) rfl ?_
  refine SeqR.go rfl rfl rfl (st_pure rfl rfl) rfl ?_
  refine SeqR.nil ?_
  exact Ek.ret ⟨Or.inr rfl, _, rfl, _, _, rfl, _, rfl, by rw [← hkl]; exact Row.new, Bd.set B (by omega) (by omega), by omega, fun γ hγ => get_set_ne (by omega)⟩

theorem tgt_cmp (v : AV) : targetA Tryd.prog (.call { callee := .invoke (.tmp 16) "Comparable", args := #[], argTypes := #[] }) [.ifc 110 v] = some (111, [v]) := by kernel_rfl
theorem tgt_unw (v : AV) : targetA Tryd.prog (.call { callee := .invoke (.tmp 35) "Unwrap", args := #[], argTypes := #[] }) [.ifc 70 v] = some (103, [v]) := by kernel_rfl
theorem tgt_unf (v : AV) : targetA Tryd.prog (.call { callee := .invoke (.tmp 35) "Unwrap", args := #[], argTypes := #[] }) [.ifc 86 v] = some (105, [v]) := by kernel_rfl
theorem is_eq1 (q : Nat) : pureA Tryd.prog (.binOp .eql 29 (.tmp 16) (.tmp 17) 29) [.ifc 70 (.ptr q 0), .ifc 41 (.int .i64 2)] = some (.bool false) := by kernel_rfl
theorem is_eq2 : pureA Tryd.prog (.binOp .eql 29 (.tmp 16) (.tmp 17) 29) [.ifc 41 (.int .i64 2), .ifc 41 (.int .i64 2)] = some (.bool true) := by kernel_rfl
theorem is_ta1 (q : Nat) : pureA Tryd.prog (.typeAssert (.tmp 21) 29 112 true) [.ifc 70 (.ptr q 0)] = some (.tup [.nili, .bool false]) := by kernel_rfl
theorem is_ta2 (q : Nat) : pureA Tryd.prog (.typeAssert (.tmp 31) 29 115 true) [.ifc 70 (.ptr q 0)] = some (.tup [.ifc 70 (.ptr q 0), .bool true]) := by kernel_rfl
theorem w_unwrapG {a b : AV} (R : Row h q [a, b]) : ∃ v' h' m', TC 103 [.ptr q 0] ⟨h, m⟩ = some (v', ⟨h', m'⟩) ∧ (v' = b ∧ h = h' ∧ m ≤ m') := by
  refine top_fn Tryd.func103 (by rfl) rfl rfl (by rfl) ?_
  refine Ek.seq ?_
  refine Ek.reg ?_
  refine SeqR.go rfl rfl rfl (st_pure rfl rfl) rfl ?_
  refine SeqR.nil ?_
  refine Ek.seq ?_
  refine Ek.reg ?_
  refine SeqR.go rfl rfl rfl (st_pure rfl rfl) rfl ?_
  refine SeqR.go rfl rfl rfl (st_pure rfl rfl) rfl ?_
  refine SeqR.go rfl rfl rfl (fld tF72_1) rfl ?_
  refine SeqR.go rfl rfl rfl (ld ta29) rfl ?_
  refine SeqR.go rfl rfl rfl (st_pure rfl rfl) rfl ?_
  refine SeqR.nil ?_
  exact Ek.ret ⟨Or.inr rfl, _, rfl, _, _, rfl, rfl, rfl, by omega⟩

theorem w_isA {a : AV} (R : Row h q [a, .ifc 41 (.int .i64 2)]) : ∃ v' h' m', TC 52 [.ifc 70 (.ptr q 0), .ifc 41 (.int .i64 2), .bool true] ⟨h, m⟩ = some (v', ⟨h', m'⟩) ∧ (v' = .bool true ∧ h = h' ∧ m ≤ m') := by
  refine top_fn Tryd.func52 (by rfl) rfl rfl (by rfl) ?_
  refine Ek.seq ?_
  refine Ek.reg ?_
  refine SeqR.go rfl rfl rfl (st_pure rfl rfl) rfl ?_
  refine SeqR.nil ?_
  refine Ek.block ?_
  refine Ek.loop ?_
  refine Ek.block ?_
  refine Ek.seq ?_
  refine Ek.seq ?_
  refine Ek.reg ?_
  refine SeqR.go rfl rfl rfl (st_pure rfl rfl) rfl ?_
  refine SeqR.go rfl rfl rfl (st_pure rfl rfl) rfl ?_
  refine SeqR.go rfl rfl rfl (st_pure rfl rfl) rfl ?_
  refine SeqR.go rfl rfl rfl (st_pure rfl rfl) rfl ?_
  refine SeqR.go rfl rfl rfl (st_pure rfl (is_eq1 _)) rfl ?_
  refine SeqR.go rfl rfl rfl (st_pickT rfl) rfl ?_
  refine SeqR.nil ?_
  refine Ek.condF rfl rfl ?_
  refine Ek.skip ?_
  refine Ek.seq ?_
  refine Ek.seq ?_
  refine Ek.reg ?_
  refine SeqR.go rfl rfl rfl (st_pure rfl rfl) rfl ?_
  refine SeqR.go rfl rfl rfl (st_pure rfl (is_ta1 _)) rfl ?_
  refine SeqR.go rfl rfl rfl (st_pure rfl rfl) rfl ?_
  refine SeqR.go rfl rfl rfl (st_pure rfl rfl) rfl ?_
  refine SeqR.go rfl rfl rfl (st_pure rfl rfl) rfl ?_
  refine SeqR.go rfl rfl rfl (st_pure rfl rfl) rfl ?_
  refine SeqR.go rfl rfl rfl (st_pure rfl rfl) rfl ?_
  refine SeqR.nil ?_
  refine Ek.seq ?_
  refine Ek.reg ?_
  refine SeqR.go rfl rfl rfl (st_pure rfl rfl) rfl ?_
  refine SeqR.go rfl rfl rfl (st_pure rfl rfl) rfl ?_
  refine SeqR.hop rfl rfl rfl ?_
  refine SeqR.hop rfl rfl rfl ?_
  refine SeqR.hop rfl rfl rfl ?_
  refine SeqR.go rfl rfl rfl (st_pickF rfl) rfl ?_
  refine SeqR.nil ?_
  refine Ek.condF rfl rfl ?_
  refine Ek.skip ?_
  refine Ek.seq ?_
  refine Ek.reg ?_
  refine SeqR.go rfl rfl rfl (st_pure rfl rfl) rfl ?_
  refine SeqR.nil ?_
  refine Ek.block ?_
  refine Ek.seq ?_
  refine Ek.reg ?_
  refine SeqR.go rfl rfl rfl (st_pure rfl (is_ta2 _)) rfl ?_
  refine SeqR.go rfl rfl rfl (st_pure rfl rfl) rfl ?_
  refine SeqR.go rfl rfl rfl (st_pure rfl rfl) rfl ?_
  refine SeqR.nil ?_
  refine Ek.condT rfl rfl ?_
  refine Ek.seq ?_
  refine Ek.reg ?_
  refine SeqR.go rfl rfl rfl (st_pure rfl rfl) rfl ?_
  refine SeqR.nil ?_
  refine Ek.seq ?_
  refine Ek.reg ?_
  refine SeqR.go rfl rfl rfl (st_pure rfl rfl) rfl ?_
  refine SeqR.cal rfl rfl rfl rfl (tgt_unw _) (w_unwrapG R) ?_
  rintro _ _ m1 ⟨rfl, rfl, hm1⟩
  refine ⟨_, rfl, ?_⟩
  refine SeqR.go rfl rfl rfl (st_pure rfl rfl) rfl ?_
  refine SeqR.nil ?_
  refine Ek.seq ?_
  refine Ek.reg ?_
  refine SeqR.go rfl rfl rfl (st_pure rfl rfl) rfl ?_
  refine SeqR.go rfl rfl rfl (eqI1 tu29) rfl ?_
  refine SeqR.nil ?_
  refine Ek.condF rfl rfl ?_
  refine Ek.skip ?_
  refine Ek.loop ?_
  refine Ek.block ?_
  refine Ek.seq ?_
  refine Ek.seq ?_
  refine Ek.reg ?_
  refine SeqR.go rfl rfl rfl (st_pure rfl rfl) rfl ?_
  refine SeqR.go rfl rfl rfl (st_pure rfl rfl) rfl ?_
  refine SeqR.go rfl rfl rfl (st_pure rfl rfl) rfl ?_
  refine SeqR.go rfl rfl rfl (st_pure rfl rfl) rfl ?_
  refine SeqR.go rfl rfl rfl (st_pure rfl is_eq2) rfl ?_
  refine SeqR.go rfl rfl rfl (st_pickT rfl) rfl ?_
  refine SeqR.nil ?_
  refine Ek.condT rfl rfl ?_
  refine Ek.seq ?_
  refine Ek.reg ?_
  refine SeqR.go rfl rfl rfl (st_pure rfl rfl) rfl ?_
  refine SeqR.nil ?_
  exact Ek.ret ⟨Or.inr rfl, _, rfl, _, _, rfl, rfl, rfl, by omega⟩

theorem w_errIs {a : AV} (R : Row h q [a, .ifc 41 (.int .i64 2)]) : ∃ v' h' m', TC 41 [.ifc 70 (.ptr q 0), .ifc 41 (.int .i64 2)] ⟨h, m⟩ = some (v', ⟨h', m'⟩) ∧ (v' = .bool true ∧ h = h' ∧ m ≤ m') := by
  refine top_fn Tryd.func41 (by rfl) rfl rfl (by rfl) ?_
  refine Ek.seq ?_
  refine Ek.reg ?_
  refine SeqR.go rfl rfl rfl (st_pure rfl rfl) rfl ?_
  refine SeqR.nil ?_
  refine Ek.seq ?_
  refine Ek.seq ?_
  refine Ek.reg ?_
  refine SeqR.go rfl rfl rfl (st_pure rfl rfl) rfl ?_
  refine SeqR.go rfl rfl rfl (eqI1 tu29) rfl ?_
  refine SeqR.go rfl rfl rfl (st_pure rfl rfl) rfl ?_
  refine SeqR.go rfl rfl rfl (st_pure rfl rfl) rfl ?_
  refine SeqR.go rfl rfl rfl (eqI1 tu29) rfl ?_
  refine SeqR.go rfl rfl rfl (st_pickF rfl) rfl ?_
  refine SeqR.nil ?_
  refine Ek.condF rfl rfl ?_
  refine Ek.skip ?_
  refine Ek.seq ?_
  refine Ek.reg ?_
  refine SeqR.go rfl rfl rfl (st_pure rfl rfl) rfl ?_
  refine SeqR.go rfl rfl rfl (st_call rfl rfl (topA_ext rfl)) rfl ?_
  refine SeqR.go rfl rfl rfl (st_call rfl (tgt_cmp _) (topA_ext rfl)) rfl ?_
  refine SeqR.go rfl rfl rfl (st_pure rfl rfl) rfl ?_
  refine SeqR.nil ?_
  refine Ek.seq ?_
  refine Ek.reg ?_
  refine SeqR.go rfl rfl rfl (st_pure rfl rfl) rfl ?_
  refine SeqR.go rfl rfl rfl (st_pure rfl rfl) rfl ?_
  refine SeqR.go rfl rfl rfl (st_pure rfl rfl) rfl ?_
  refine SeqR.cal rfl rfl rfl rfl rfl (w_isA R) ?_
  rintro _ _ m1 ⟨rfl, rfl, hm1⟩
  refine ⟨_, rfl, ?_⟩
  refine SeqR.go rfl rfl rfl (st_pure rfl rfl) rfl ?_
  refine SeqR.nil ?_
  exact Ek.ret ⟨Or.inr rfl, _, rfl, _, _, rfl, rfl, rfl, by omega⟩

theorem w_isFull {a : AV} (R : Row h q [a, .ifc 41 (.int .i64 2)]) : ∃ v' h' m', TC 19 [.ifc 70 (.ptr q 0), .int .i64 2] ⟨h, m⟩ = some (v', ⟨h', m'⟩) ∧ (v' = .bool true ∧ h = h' ∧ m ≤ m') := by
  refine top_fn Tryd.func19 (by rfl) rfl rfl (by rfl) ?_
  refine Ek.seq ?_
  refine Ek.reg ?_
  refine SeqR.go rfl rfl rfl (st_pure rfl rfl) rfl ?_
  refine SeqR.nil ?_
  refine Ek.seq ?_
  refine Ek.seq ?_
  refine Ek.reg ?_
  refine SeqR.go rfl rfl rfl (st_pure rfl rfl) rfl ?_
  refine SeqR.go rfl rfl rfl (st_pure rfl rfl) rfl ?_
  refine SeqR.nil ?_
  refine Ek.condF rfl rfl ?_
  refine Ek.skip ?_
  refine Ek.seq ?_
  refine Ek.reg ?_
  refine SeqR.go rfl rfl rfl (st_pure rfl rfl) rfl ?_
  refine SeqR.go rfl rfl rfl (neI1 tu29) rfl ?_
  refine SeqR.go rfl rfl rfl (st_pure rfl rfl) rfl ?_
  refine SeqR.go rfl rfl rfl (st_pure rfl rfl) rfl ?_
  refine SeqR.go rfl rfl rfl (st_pure rfl rfl) rfl ?_
  refine SeqR.go rfl rfl rfl (mkif tu41) rfl ?_
  refine SeqR.cal rfl rfl rfl rfl rfl (w_errIs R) ?_
  rintro _ _ m1 ⟨rfl, rfl, hm1⟩
  refine ⟨_, rfl, ?_⟩
  refine SeqR.go rfl rfl rfl (st_pickT rfl) rfl ?_
  refine SeqR.go rfl rfl rfl (st_pure rfl rfl) rfl ?_
  refine SeqR.nil ?_
  exact Ek.ret ⟨Or.inr rfl, _, rfl, _, _, rfl, rfl, rfl, by omega⟩
end
end Go.Xec
