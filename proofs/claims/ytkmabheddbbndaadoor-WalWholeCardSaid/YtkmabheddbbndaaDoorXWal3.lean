/- slices.Sorted(maps.Keys(m)) at int keys: the callee by contract does what the model does. -/
import Derived.Test.YtkmabheddbbndaaDoorXWal2
namespace Go.Xec
open Go.Proofs Go.RowKit Go.Maps Go.Sort Go.Shelf

/-- Every value reads as nothing: the reader of the map's elements. -/
noncomputable def noRead : Value → Option (DataW Unit × List MemPlace) := fun _ => some (.nil, [])
noncomputable def dataOf (es : Array MapEntry) : DataW Unit := .map ((es.toList.map (WideElems.rg Tryd.prog 3 noRead)).foldr DataW.insert [])

theorem keysI_ers {μ : Mu} : ∀ {es : List (AV × AV × Nat)} {l : List MapEntry} {ks : List Int}, keysI es = some ks → ERs μ es l → l.map (·.key) = ks.map encZ ∧ l.map (·.born) = es.map (·.2.2) ∧ l.length = es.length
  | [], l, ks, h, he => by
    have h' : some [] = some ks := h
    injection h' with h'; subst h'
    have he' : l = [] := he
    subst he'; exact ⟨rfl, rfl, rfl⟩
  | e :: es, l, ks, h, he => by
    unfold keysI at h
    split at h
    case h_2 => cases h
    rename_i n r hn hr
    injection h with h; subst h
    obtain ⟨e', es', rfl, h1, _, h3, h4⟩ := he
    obtain ⟨g1, g2, g3⟩ := keysI_ers hr h4
    rw [hn] at h1
    have h1' : e'.key = .int .i64 n := h1
    exact ⟨by simp [g1, h1'], by simp [g2, h3], by simp [g3]⟩

theorem tr_u3 : Tryd.prog.underlying 3 = some (.int .i64) := Tryd.underlying3

theorem own_of {μ : Mu} {w : World} {b clock : Nat} {es : List (AV × AV × Nat)} {es' : Array MapEntry} {ks : List Int} (hb : w.heap[b]? = some (.map es' clock)) (he : ERs μ es es'.toList) (hk : keysI es = some ks) (hok : mapOkI es clock ks = true) :
    w.ownsMap Tryd.prog 3 noRead b es'.size (dataOf es') ∧ (intKeys (dataOf es')).Perm ks ∧ Maps.size (dataOf es') = ks.length ∧ ks.length ≤ 1000000 := by
  obtain ⟨g1, g2, g3⟩ := keysI_ers hk he
  unfold mapOkI at hok
  simp only [Bool.and_eq_true, List.all_eq_true] at hok
  obtain ⟨⟨⟨⟨o1, o2⟩, o3⟩, o4⟩, o5⟩ := hok
  have hsz : es'.size ≤ 1000000 := by rw [← Array.length_toList, g3]; exact Nat.le_of_ble_eq_true o1
  have hkl : ks.length = es'.size := by
    have := congrArg List.length g1
    simpa using this.symm
  have hkey : ∀ x ∈ es'.toList, ∃ n ∈ ks, x.key = .int .i64 n := by
    intro x hx
    have : x.key ∈ ks.map encZ := by rw [← g1]; exact List.mem_map.2 ⟨x, hx, rfl⟩
    obtain ⟨n, hn, e⟩ := List.mem_map.1 this
    exact ⟨n, hn, e.symm⟩
  have hrd : ∀ x ∈ es'.toList, ∀ n, x.key = .int .i64 n → n ∈ ks → WideElems.rd Tryd.prog 3 noRead x = some (.int .i64 n, .nil) := by
    intro x hx n e hn
    unfold WideElems.rd
    have : keyOf Tryd.prog 3 x.key = some (.int .i64 n) := by
      rw [e]; exact keyOf_int_mk tr_u3 (o5 n hn)
    rw [this]; rfl
  have hmx : es'.size ≤ maxLen := Nat.le_trans hsz (by decide)
  refine ⟨⟨es', clock, hb, ⟨hmx, ⟨fun x hx => ?_, ?_, ?_⟩, fun x hx => ?_⟩, Nat.le_refl _, rfl⟩, ?_, ?_, by omega⟩
  · have : x.born ∈ es.map (·.2.2) := by rw [← g2]; exact List.mem_map.2 ⟨x, hx, rfl⟩
    obtain ⟨y, hy, e⟩ := List.mem_map.1 this
    have := o2 y hy
    rw [Nat.blt_eq] at this
    rw [← e]; exact this
  · rw [g2]; exact nodupN_ok o3
  · rw [g1]
    exact List.pairwise_map.2 ((nodupI_ok o4).imp fun hne e => hne (encZ_inj e))
  · obtain ⟨n, hn, e⟩ := hkey x hx
    exact ⟨_, hrd x hx n e hn⟩
  · have h1 : (intKeys (dataOf es')).Perm ((es'.toList.map (WideElems.rg Tryd.prog 3 noRead)).map fun p => intOf p.1) := (WideShapes.sorted_perm _).map _
    refine h1.trans (List.Perm.of_eq ?_)
    rw [List.map_map]
    have h2 : es'.toList.map ((fun p => intOf p.1) ∘ WideElems.rg Tryd.prog 3 noRead) = (es'.toList.map (·.key)).map (fun v => match v with | .int _ n => n | _ => 0) := by
      rw [List.map_map]
      refine List.map_congr_left fun x hx => ?_
      obtain ⟨n, hn, e⟩ := hkey x hx
      simp only [Function.comp, WideElems.rg_of (hrd x hx n e hn), e]
      rfl
    rw [h2, g1, List.map_map]
    exact List.map_id' _
  · show (((es'.toList.map (WideElems.rg Tryd.prog 3 noRead)).foldr DataW.insert [])).length = _
    rw [DataW.length_sorted]; simp [hkl]

theorem sort_call {w : World} {r b clock : Nat} {μ : Mu} {es : List (AV × AV × Nat)} {es' : Array MapEntry} {ks : List Int} (hr : r < w.heap.size) (hm : w.cell? ⟨r, 0, none⟩ = some (.map (some b))) (hb : w.heap[b]? = some (.map es' clock)) (he : ERs μ es es'.toList) (hk : keysI es = some ks) (hok : mapOkI es clock ks = true) :
    Calls Tryd.prog 36 #[.func (.func 49) #[] #[.pointer (some ⟨r, 0, none⟩)]] w fun e w' => ∃ (v : Value), e = .returned v ∧ w'.ownsRow w.heap.size 3 1 v ks.length ((sortI ks).map encZ) ∧ (v = .slice none 0 0 ↔ ks = []) ∧ Below w.heap.size w w' := by
  obtain ⟨hown, hp, hsz, hle⟩ := own_of hb he hk hok
  have hseq : SeqGives Fence.wide 2 Tryd.prog 49 #[.pointer (some ⟨r, 0, none⟩)] encZ (fun ss => ss.Perm (intKeys (dataOf es'))) (Maps.size (dataOf es')) w :=
    AnyZI.keys_gives (ρ := Tryd.keysA_ren) { Tryd.keysA with } Fence.wide _ trivial rfl (by omega) r b es'.size (dataOf es') w hr hm hown
  have cS := AnyZI.sorted_in Tryd.sortedA Fence.wide 5 trivial trivial trivial trivial rfl (by omega) (Tryd.sortsA _) (enters_of Tryd.func48 (by kernel_rfl) rfl) 49 #[.pointer (some ⟨r, 0, none⟩)] trivial (enters_of Tryd.func49 (by kernel_rfl) rfl) _ _
    (by rw [hsz]; exact Nat.le_trans hle (by decide)) (by rw [hsz]; omega) w hseq
  change CallsIn Fence.wide 5 Tryd.prog 36 _ _ _ at cS
  refine ((callsIn_wide (n := 5)).1 cS).mono ?_
  rintro e w' ⟨v, ss, rfl, hS, hrow, hnil, hbel⟩
  have hpk : ss.Perm ks := hS.trans hp
  have hsort : ss.mergeSort leI = sortI ks := (mergeSort_of_perm_i hpk).trans (sortI_eq ks)
  refine ⟨v, rfl, ?_, ?_, hbel⟩
  · have h1 : ss.length = ks.length := hpk.length_eq
    rw [← h1, ← hsort]
    exact hrow
  · rw [hnil]
    constructor
    · intro h; subst h; exact (List.nil_perm.1 hpk)
    · intro h; subst h; exact (List.perm_nil.1 hpk)

theorem extSort_ok {F : Nat → Prop} {w0 : World} : CalleeOk Tryd.prog F w0 extSort := by
  intro f args st rv st' h
  unfold extSort at h
  split at h
  case h_2 => cases h
  rename_i hf
  have hf' := Nat.eq_of_beq_eq_true hf
  subst hf'
  split at h
  case h_2 => cases h
  rename_i g β
  split at h
  case h_2 => cases h
  rename_i hg
  have hg' := Nat.eq_of_beq_eq_true hg
  subst hg'
  split at h
  case h_2 => cases h
  rename_i n cs hβ
  split at h
  case h_2 => cases h
  rename_i γ hc0
  split at h
  case h_2 => cases h
  rename_i es clock hγ
  split at h
  case h_2 => cases h
  rename_i ks hks
  split at h
  case h_2 => cases h
  rename_i hok
  injection h with h
  refine .inl ⟨⟨Tryd.f36, Tryd.func36, rfl, rfl⟩, fun μ w args' k hfr ha => ?_⟩
  obtain ⟨v1, vs, e1, ⟨a', c', rfl, ha', hc'⟩, hn⟩ := VRs_cons.1 ha
  have hn' := VRs_nil.1 hn
  subst hn'
  have hae := VRs_nil.1 ha'
  obtain ⟨v2, vs2, e2, ⟨r, base, hm, rfl⟩, hn2⟩ := VRs_cons.1 hc'
  have hn2' := VRs_nil.1 hn2
  subst hn2'
  have hb0 := k.base0 hβ hm
  subst hb0
  have hae' : a' = #[] := by apply Array.ext'; exact hae
  have hce' : c' = #[.pointer (some ⟨r, 0 + 0, none⟩)] := by apply Array.ext'; exact e2
  subst hae'; subst hce'
  have harg : args' = #[.func (.func 49) #[] #[.pointer (some ⟨r, 0, none⟩)]] := by apply Array.ext'; exact e1
  subst harg
  obtain ⟨r', base', c, e, lo, hi, q1, q2, q3, q4, q5⟩ := k.cells hβ
  rw [hm] at q1; injection q1 with q1; simp only [Prod.mk.injEq] at q1
  obtain ⟨q1a, q1b⟩ := q1
  subst q1a; subst q1b
  obtain ⟨v3, hv3, b, hmb, rfl⟩ := q5 0 _ (by omega) hc0
  obtain ⟨b', es', g1, g2, g3⟩ := k.map hγ
  rw [hmb] at g1; injection g1 with g1; simp only [Prod.mk.injEq] at g1
  obtain ⟨g1a, _⟩ := g1
  subst g1a
  have hcell : w.cell? ⟨r, 0, none⟩ = some (.map (some b)) := by rw [cell_of_heap q2]; exact hv3
  refine (sort_call (Array.getElem?_eq_some_iff.1 q2).1 hcell g2 g3 hks hok).mono ?_
  rintro e w' ⟨v, rfl, hrow, hnil, hbel⟩
  have kb := k.below hbel
  cases hkse : ks with
  | nil =>
    rw [hkse] at h hnil
    have h' : (AV.nils, st) = (rv, st') := h
    simp only [Prod.mk.injEq] at h'
    obtain ⟨h1, h2⟩ := h'
    subst h1; subst h2
    exact ⟨v, μ, rfl, hnil.2 rfl, Went.same kb hfr⟩
  | cons k0 kr =>
    have hne : ks ≠ [] := by rw [hkse]; simp
    rw [hkse] at h
    have h' : (AV.sl st.nxt 0 (k0 :: kr).length (k0 :: kr).length 1, (⟨st.heap.set st.nxt (blkOf ((sortI (k0 :: kr)).map (AV.int .i64))), st.nxt + 1⟩ : St)) = (rv, st') := h
    rw [← hkse] at h'
    simp only [Prod.mk.injEq] at h'
    obtain ⟨h1, h2⟩ := h'
    subst h1; subst h2
    have hv : v ≠ .slice none 0 0 := fun e => hne (hnil.1 e)
    rcases hrow.2 with ⟨hv0, _⟩ | ⟨gg, cap, cur, rfl, hbase, hgb, r1, r2, r3, r4⟩
    · exact absurd hv0 hv
    have hnm : μ st.nxt = none := hfr _ (Nat.le_refl _)
    have hlen : (sortI ks).length = ks.length := (sortI_perm ks).length_eq
    have hgl : ∀ β c r base, st.heap.get β = some c → μ β = some (r, base) → r ≠ gg := by
      intro β2 c2 r2' base2 hc2 hm2 e
      obtain ⟨r3', base3, o3, p1, p2, _, _⟩ := k.blk β2 c2 hc2
      rw [hm2] at p1; injection p1 with p1; simp only [Prod.mk.injEq] at p1
      have := (Array.getElem?_eq_some_iff.1 p2).1
      omega
    have hnF : ¬ F gg := fun hF => by
      have := k.fsz _ hF
      have := k.size
      omega
    have ka := kb.adopt (nm := st.nxt) (g := gg) hnm (b := blkOf ((sortI ks).map (AV.int .i64))) (ex := cap) hgb (by
      refine ⟨cur, 3, 0, 0, rfl, ⟨by simp [hlen]; omega, by omega, rfl⟩, fun i _ => by omega, fun i a hi ha => ?_⟩
      have hi' : i < ks.length := by simpa [blkOf, hlen] using hi
      rw [writeL_get, if_pos (by simp [hlen]; omega), Nat.sub_zero, List.getElem?_map] at ha
      cases hx : (sortI ks)[i]? with
      | none => rw [hx] at ha; cases ha
      | some x =>
        rw [hx] at ha
        have ha' : some (AV.int .i64 x) = some a := ha
        injection ha' with ha'; subst ha'
        refine ⟨encZ x, ?_, rfl⟩
        have : (cur.toList.take (ks.length * 1))[i]? = some (encZ x) := by rw [r4, List.getElem?_map, hx]; rfl
        rw [List.getElem?_take, if_pos (by omega)] at this
        rw [Nat.zero_add, ← Array.getElem?_toList]; exact this) hnF hgl
    refine ⟨_, μ.put st.nxt (gg, 0) cap, rfl, ⟨gg, 0, cap, Mu.put_at _ _ _ _, by omega, Nat.le_refl _, by rw [Mu.put_ext]; omega, rfl⟩, Mu.le_put hnm, by simp, fun β hβ => Mu.put_other _ _ _ (by omega), ?_, hfr.put _ _⟩
    show HInv F w0 _ (st.heap.set st.nxt _).get w'
    rw [get_set_fun]; exact ka
end Go.Xec
