/- crc.More as a callee by contract: its sum as a function of numbers. -/
import Derived.Test.YtkmabheddbbndaaDoorXWal4
namespace Go.Xec
open Go.Proofs

/-- One round of the inner loop. -/
def crcI (x : Int) : Int :=
  IntKind.u32.wrap (BitVec.ofInt IntKind.u32.bits (x.fdiv (2 ^ (min (1 : Int).toNat IntKind.u32.bits))) ^^^ BitVec.ofInt IntKind.u32.bits (IntKind.u32.wrap (BitVec.ofInt IntKind.u32.bits 3988292384 &&& BitVec.ofInt IntKind.u32.bits (IntKind.u32.wrap (0 - IntKind.u32.wrap (BitVec.ofInt IntKind.u32.bits x &&& BitVec.ofInt IntKind.u32.bits 1).toNat))).toNat)).toNat
def crcN : Nat → Int → Int
  | 0, x => x
  | n + 1, x => crcN n (crcI x)
def crcB (x : Int) (b : Int) : Int := crcN 8 (IntKind.u32.wrap (BitVec.ofInt IntKind.u32.bits x ^^^ BitVec.ofInt IntKind.u32.bits (IntKind.u32.wrap b)).toNat)
def crcL (x : Int) : List Int → Int
  | [] => x
  | b :: l => crcL (crcB x b) l
def notI (x : Int) : Int := IntKind.u32.wrap (BitVec.ofInt IntKind.u32.bits (if IntKind.u32.signed then -1 else IntKind.u32.max) ^^^ BitVec.ofInt IntKind.u32.bits x).toNat

theorem tr_e33 : sliceElem Tryd.prog 33 = some 5 := by kernel_rfl
theorem tr_z5 : sizeOfT Tryd.prog 5 = some 1 := by kernel_rfl
theorem tr_a5 : aggT Tryd.prog 5 = some false := by kernel_rfl
theorem tr_ck : kindOf Tryd.prog (.convert 5 91 (.tmp 17)) = .pure := by kernel_rfl
theorem tr_conv (b : Int) : pureA Tryd.prog (.convert 5 91 (.tmp 17)) [.int .u8 b] = some (.int .u32 (IntKind.u32.wrap b)) := by kernel_rfl

noncomputable def frC (β o n c : Nat) (i : Nat) (x : Int) : Fr := (((T.nil.set 10 (.sl β o n c 1)).set 11 (.int .i64 (n : Int))).set 12 (.int .i64 (i : Int))).set 5 (.int .u32 x)
noncomputable def frJ (β o n c : Nat) (i : Nat) (x : Int) (j : Nat) : Fr := ((((T.nil.set 10 (.sl β o n c 1)).set 11 (.int .i64 (n : Int))).set 12 (.int .i64 (i : Int))).set 5 (.int .u32 x)).set 20 (.int .i64 (j : Int))

theorem crc_more {call : Callee} {s : Int} {l : List Int} {β o c m : Nat} {cs : T AV} {h : T ABlk} {m0 : Nat} (hb : h.get β = some (.cells m cs)) (hm : o + l.length ≤ m) (hl : ∀ i b, l[i]? = some b → cs.get (o + i) = some (.int .u8 b)) (hn : l.length < 1000000) :
    ∃ loops v st', bodyA Tryd.prog call loops Tryd.f45 [.int .u32 s, .sl β o l.length c 1] ⟨h, m0⟩ = some (v, st') ∧ (v = .int .u32 (notI (crcL (notI s) l)) ∧ st' = ⟨h, m0 + (11 + l.length * 101)⟩) := by
  refine bodyA_of_ek rfl rfl rfl ?_
  refine Ek.seq (Ek.reg ?_)
  refine SeqR.go rfl rfl rfl (st_pure rfl rfl) rfl ?_
  refine SeqR.nil ?_
  refine Ek.seq (Ek.reg ?_)
  refine SeqR.go rfl rfl rfl (st_pure rfl rfl) rfl ?_
  refine SeqR.go rfl rfl rfl (st_pure rfl rfl) rfl ?_
  refine SeqR.go rfl rfl rfl (st_pure rfl rfl) rfl ?_
  refine SeqR.nil ?_
  refine Ek.seq (Ek.seq (Ek.reg ?_))
  refine SeqR.go rfl rfl rfl (st_pure rfl rfl) rfl ?_
  refine SeqR.go rfl rfl rfl (st_len tr_e33) rfl ?_
  refine SeqR.go rfl rfl rfl (st_pure rfl rfl) rfl ?_
  refine SeqR.nil ?_
  refine Ek.block ?_
  refine Ek.loop_inv (fun d fr st => ∃ i x, i + d = l.length ∧ Le (frC β o l.length c i x) fr ∧ crcL x (l.drop i) = crcL (notI s) l ∧ st = ⟨h, m0 + (7 + i * 101)⟩) ?_ l.length _ _ ⟨0, notI s, by omega, Le.put (Le.put (Le.put (Le.put (Le.nil _) rfl) rfl) rfl) rfl, rfl, ?_⟩
  rotate_left
  · simp
  rintro d fr st ⟨i, x, hi, hle, hx, rfl⟩
  refine Ek.weaken hle ?_
  refine Ek.seq (Ek.reg ?_)
  refine SeqR.go rfl rfl rfl (st_pure rfl rfl) rfl ?_
  refine SeqR.nil ?_
  by_cases hil : i < l.length
  · refine Ek.seq (Ek.condT rfl (by simp [hil]) (Ek.skip ?_))
    obtain ⟨b, hbi⟩ : ∃ b, l[i]? = some b := ⟨l[i], List.getElem?_eq_getElem hil⟩
    refine Ek.seq (Ek.block ?_)
    refine Ek.seq (Ek.reg ?_)
    refine SeqR.go rfl rfl rfl (st_index tr_e33 tr_z5 (by omega) (by omega)) rfl ?_
    refine SeqR.go rfl rfl rfl (st_load tr_a5 hb (by simp only [Int.toNat_natCast]; omega) (by rw [show o + (i : Int).toNat * 1 = o + i by simp]; exact hl i b hbi)) rfl ?_
    refine SeqR.go rfl rfl rfl (st_pure rfl rfl) rfl ?_
    refine SeqR.nil ?_
    refine Ek.seq (Ek.reg ?_)
    refine SeqR.go rfl rfl rfl (st_pure rfl rfl) rfl ?_
    refine SeqR.go rfl rfl rfl (st_pure rfl rfl) rfl ?_
    refine SeqR.go rfl rfl rfl (st_pure tr_ck (tr_conv b)) rfl ?_
    refine SeqR.go rfl rfl rfl (st_pure rfl rfl) rfl ?_
    refine SeqR.go rfl rfl rfl (st_pure rfl rfl) rfl ?_
    refine SeqR.nil ?_
    refine Ek.seq (Ek.reg ?_)
    refine SeqR.go rfl rfl rfl (st_pure rfl rfl) rfl ?_
    refine SeqR.nil ?_
    refine Ek.block ?_
    refine Ek.loop_inv (fun d2 fr st => ∃ j y, j + d2 = 8 ∧ Le (frJ β o l.length c i y j) fr ∧ crcN (8 - j) y = crcB x b ∧ st = ⟨h, m0 + (17 + i * 101 + j * 11)⟩) ?_ 8 _ _ ⟨0, _, by omega, Le.put (Le.put (Le.put (Le.put (Le.put (Le.nil _) rfl) rfl) rfl) rfl) rfl, rfl, ?_⟩
    rotate_left
    · simp only [St.mk.injEq, true_and]; omega
    rintro d2 fr2 st2 ⟨j, y, hj, hle2, hy, rfl⟩
    refine Ek.weaken hle2 ?_
    refine Ek.seq (Ek.reg ?_)
    refine SeqR.go rfl rfl rfl (st_pure rfl rfl) rfl ?_
    refine SeqR.nil ?_
    by_cases hj8 : j < 8
    · refine Ek.seq (Ek.condT rfl (by simp; omega) (Ek.skip ?_))
      refine Ek.seq (Ek.block (Ek.reg ?_))
      refine SeqR.go rfl rfl rfl (st_pure rfl rfl) rfl ?_
      refine SeqR.go rfl rfl rfl (st_pure rfl rfl) rfl ?_
      refine SeqR.go rfl rfl rfl (st_pure rfl rfl) rfl ?_
      refine SeqR.go rfl rfl rfl (st_pure rfl rfl) rfl ?_
      refine SeqR.go rfl rfl rfl (st_pure rfl rfl) rfl ?_
      refine SeqR.go rfl rfl rfl (st_pure rfl rfl) rfl ?_
      refine SeqR.go rfl rfl rfl (st_pure rfl rfl) rfl ?_
      refine SeqR.go rfl rfl rfl (st_pure rfl rfl) rfl ?_
      refine SeqR.nil ?_
      refine Ek.reg ?_
      refine SeqR.go rfl rfl rfl (st_add (r := ((j + 1 : Nat) : Int)) (by rw [IntWalk.i64_in _ (by omega)]; omega)) rfl ?_
      refine SeqR.go rfl rfl rfl (st_pure rfl rfl) rfl ?_
      refine SeqR.nil ?_
      refine ⟨d2 - 1, by omega, j + 1, crcI y, by omega, Le.put (Le.put (Le.put (Le.put (Le.put (Le.nil _) rfl) rfl) rfl) rfl) rfl, ?_, ?_⟩
      · rw [← hy, show 8 - j = (8 - (j + 1)) + 1 by omega]; rfl
      · simp only [St.mk.injEq, true_and]; omega
    · refine Ek.seq (Ek.condF rfl (by simp; omega) (Ek.exit ?_))
      have hj' : j = 8 := by omega
      subst hj'
      simp only [AEx.then, AEx.inBlock, if_true]
      refine Ek.reg ?_
      refine SeqR.go rfl rfl rfl (st_add (r := ((i + 1 : Nat) : Int)) (by rw [IntWalk.i64_in _ (by omega)]; omega)) rfl ?_
      refine SeqR.go rfl rfl rfl (st_pure rfl rfl) rfl ?_
      refine SeqR.nil ?_
      refine ⟨d - 1, by omega, i + 1, y, by omega, Le.put (Le.put (Le.put (Le.put (Le.nil _) rfl) rfl) rfl) rfl, ?_, ?_⟩
      · have hyx : y = crcB x b := hy
        rw [← hx, hyx, List.drop_eq_getElem_cons hil]
        have : l[i] = b := by rw [List.getElem?_eq_getElem hil] at hbi; injection hbi
        rw [this]; rfl
      · simp only [St.mk.injEq, true_and]; omega
  · refine Ek.seq (Ek.condF rfl (by simp [hil]) (Ek.exit ?_))
    have hi' : i = l.length := by omega
    subst hi'
    simp only [AEx.then, AEx.inBlock, if_true]
    refine Ek.seq (Ek.reg ?_)
    refine SeqR.go rfl rfl rfl (st_pure rfl rfl) rfl ?_
    refine SeqR.go rfl rfl rfl (st_pure rfl rfl) rfl ?_
    refine SeqR.go rfl rfl rfl (st_pure rfl rfl) rfl ?_
    refine SeqR.nil ?_
    have hx' : x = crcL (notI s) l := by rw [← hx, List.drop_length]; rfl
    refine Ek.ret ⟨Or.inr rfl, _, rfl, by rw [← hx']; rfl, ?_⟩
    simp only [St.mk.injEq, true_and]; omega

def bytesI : List AV → Option (List Int)
  | [] => some []
  | .int .u8 n :: l => match bytesI l with
    | some r => some (n :: r)
    | none => none
  | _ => none

theorem bytesI_get : ∀ {vs : List AV} {l : List Int}, bytesI vs = some l → vs = l.map (AV.int .u8)
  | [], l, h => by
    have h' : some [] = some l := h
    injection h' with h'; subst h'; rfl
  | v :: vs, l, h => by
    unfold bytesI at h
    split at h
    · rename_i he; cases he
    · rename_i n l2 he
      injection he with e1 e2
      subst e1; subst e2
      split at h
      · rename_i r hr
        injection h with h; subst h
        rw [bytesI_get hr]; rfl
      · cases h
    · cases h

noncomputable def extCrc : Callee := fun f args st => match Nat.beq f 45 with
  | true => match args with
    | [.int .u32 s, .sl β o n c 1] => match st.heap.get β with
      | some (.cells m cs) => match Nat.ble (o + n) m && Nat.blt n 1000000 with
        | true => match readN cs o n with
          | some vs => match bytesI vs with
            | some l => some (.int .u32 (notI (crcL (notI s) l)), ⟨st.heap, st.nxt + (11 + l.length * 101)⟩)
            | none => none
          | none => none
        | false => none
      | _ => none
    | _ => none
  | false => none

theorem td_follows' : Tryd.prog.follows .mixedOrders = true := td_follows

theorem extCrc_ok {F : Nat → Prop} {w0 : World} : CalleeOk Tryd.prog F w0 extCrc := by
  intro f args st rv st' h
  unfold extCrc at h
  split at h
  case h_2 => cases h
  rename_i hf
  have hf' := Nat.eq_of_beq_eq_true hf
  subst hf'
  split at h
  case h_2 => cases h
  rename_i s β o n c
  split at h
  case h_2 => cases h
  rename_i m cs hb
  split at h
  case h_2 => cases h
  rename_i hc
  rw [Bool.and_eq_true] at hc
  have h1 := Nat.le_of_ble_eq_true hc.1
  have h2 : n < 1000000 := by simpa using hc.2
  split at h
  case h_2 => cases h
  rename_i vs hvs
  split at h
  case h_2 => cases h
  rename_i l hl
  injection h with h; simp only [Prod.mk.injEq] at h
  obtain ⟨e1, e2⟩ := h
  subst e1; subst e2
  obtain ⟨g1, g2⟩ := readN_get _ _ _ hvs
  have hvl := bytesI_get hl
  have hln : l.length = n := by rw [← g1, hvl]; simp
  cases st with | mk hh mm
  obtain ⟨loops, v, st', hbody, rfl, rfl⟩ := crc_more (call := fun _ _ _ => none) (s := s) (l := l) (c := c) (m0 := mm) hb (by omega) (fun i b hi => g2 i _ (by rw [hvl, List.getElem?_map, hi]; rfl)) (by omega)
  rw [hln] at hbody
  rw [hln]
  exact .inl (bodyA_sound noneA_ok td_follows Tryd.func45 hbody)
end Go.Xec
