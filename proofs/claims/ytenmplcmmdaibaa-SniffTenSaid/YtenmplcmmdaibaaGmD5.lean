/- Slice expressions. -/
import Derived.Test.YtenmplcmmdaibaaGmD4
namespace Go.Gm
set_option linter.unusedVariables false
set_option linter.unusedSimpArgs false
theorem take_get {α : Type} {l : List α} {n i : Nat} {x : α} (h : (l.take n)[i]? = some x) : l[i]? = some x := by
  rw [List.getElem?_take] at h
  split at h
  · exact h
  · cases h
theorem boundA_some (c n : Nat) (y : AVal) : boundA c (some y) = boundA n (some y) := by cases y <;> rfl
def ORel (E : Env) (o : Option AVal) (v : Option Value) : Prop := (o = none ∧ v = none) ∨ ∃ a u, o = some a ∧ v = some u ∧ VRel E a u
section
variable {C : Cfg} {E : Env} {H : AHeap} {w : World}
theorem sliceStr_ok {t : TypeId} {a z : AVal} {u : Value} {lo hi : Option AVal} {lo' hi' : Option Value} (hu : C.P.underlying t = some .string) (ha : VRel E a u) (r1 : ORel E lo lo') (r2 : ORel E hi hi') (h : sliceStr a lo hi = some z) :
    PureOk E C.P w (Instr.sliceAt t u lo' hi' none) z := by
  unfold sliceStr at h
  split at h
  · rename_i s
    cases h1 : boundA 0 lo with
    | none => simp [h1] at h
    | some l =>
      simp only [h1, Option.bind_some] at h
      cases h2 : boundA s.length hi with
      | none => simp [h2] at h
      | some n =>
        simp only [h2, Option.bind_some] at h
        split at h
        · rename_i hln
          injection h with h; subst h
          rw [ha.str_inv]
          have hb := bounds_ok (C := C) (E := E) (w := w) (isS := false) (len := s.length) (cap := s.length) (mx := none) (mx' := none) (m := s.length) (by simp) r1 r2 (.inl ⟨rfl, rfl⟩) h1 h2 rfl hln.1 hln.2 (Nat.le_refl _)
          have he : (⟨s.toArray⟩ : ByteArray).extract l n = ⟨((s.take n).drop l).toArray⟩ := by
            apply ByteArray.ext
            rw [ByteArray.data_extract]
            apply Array.ext'
            rw [Array.toList_extract, List.extract_eq_take_drop, List.drop_take]
          refine ⟨_, ?_, .str _⟩
          simp only [Instr.sliceAt, Instr.slice, Sem.run_bind, run_underlying hu, Result.andThen_ok, size_mk, Option.isSome_none, Bool.false_eq_true, if_false, hb, Sem.run_pure, he]
        · cases h
  · cases h
theorem sliceArr_ok {t n e : Nat} {d : TypeDesc} {a z : AVal} {u : Value} {lo hi : Option AVal} {lo' hi' : Option Value} (hu : C.P.underlying t = some (.array n e)) (hd : C.P.underlying e = some d) (ha : VRel E a u)
    (r1 : ORel E lo lo') (r2 : ORel E hi hi') (h : sliceArr n (sizeT C.P e) a lo hi = some z) : PureOk E C.P w (Instr.sliceAt t u lo' hi' none) z := by
  unfold sliceArr at h
  split at h
  · rename_i id g off
    cases h1 : boundA 0 lo with
    | none => simp [h1] at h
    | some l =>
      simp only [h1, Option.bind_some] at h
      cases h2 : boundA n hi with
      | none => simp [h2] at h
      | some k =>
        simp only [h2, Option.bind_some] at h
        split at h
        · rename_i hb
          injection h with h; subst h
          obtain ⟨b, hφ, rfl⟩ := ha.ptr_inv
          have hrun := bounds_ok (C := C) (E := E) (w := w) (isS := false) (len := n) (cap := n) (mx := none) (mx' := none) (m := n) (by simp) r1 r2 (.inl ⟨rfl, rfl⟩) h1 h2 rfl hb.1 hb.2 (Nat.le_refl _)
          refine ⟨.slice (some ⟨b, if n = l then off else off + l * sizeT C.P e, none⟩) (k - l) (n - l), ?_, .ms hφ (Nat.le_refl _) (by omega) (fun _ => rfl) (fun hne => by rw [if_neg (by omega)])⟩
          simp only [Instr.sliceAt, Sem.run_bind, run_underlying hu, Result.andThen_ok, Instr.sureAddr, hrun, run_sizeOf_u hd, Sem.run_pure, add_plain]
          split <;> rfl
        · cases h
  · cases h
theorem sliceSl_ok {t e : TypeId} {d : TypeDesc} {a z : AVal} {u : Value} {lo hi mx : Option AVal} {lo' hi' mx' : Option Value} (hu : C.P.underlying t = some (.slice e)) (hd : C.P.underlying e = some d) (ha : VRel E a u) (hmh : mx' ≠ none → hi' ≠ none)
    (r1 : ORel E lo lo') (r2 : ORel E hi hi') (r3 : ORel E mx mx') (h : sliceSl (sizeT C.P e) a lo hi mx = some z) : PureOk E C.P w (Instr.sliceAt t u lo' hi' mx') z := by
  have run : ∀ (ad : Option Addr) len cap l n m, (Instr.sliceBounds true len cap lo' hi' mx').run C.P w = .ok (l, n, m) w →
      (Instr.sliceAt t (.slice ad len cap) lo' hi' mx').run C.P w = .ok (.slice (if m = l then ad else ad.map (·.add (l * sizeT C.P e))) (n - l) (m - l)) w := by
    intro ad len cap l n m hb
    simp only [Instr.sliceAt, Instr.slice, Sem.run_bind, run_underlying hu, Result.andThen_ok, hb, run_sizeOf_u hd, Sem.run_pure]
  unfold sliceSl at h
  split at h
  · rename_i es tk
    split at h
    · cases h
    · rename_i hall
      have hall' : ∀ x ∈ es, x.length = sizeT C.P e := by simpa using hall
      cases h1 : boundA 0 lo with
      | none => simp [h1] at h
      | some l =>
        simp only [h1, Option.bind_some] at h
        cases h2 : boundA es.length hi with
        | none => simp [h2] at h
        | some n =>
          simp only [h2, Option.bind_some] at h
          cases h3 : boundA n mx with
          | none => simp [h3] at h
          | some m =>
            simp only [h3, Option.bind_some] at h
            split at h
            · rename_i hb
              obtain ⟨hln, hnl, hmn⟩ := hb
              injection h with h; subst h
              -- the model's own header
              obtain ⟨ad, cap, hU, hcap, hnone, hspot⟩ : ∃ ad cap, u = .slice ad es.length cap ∧ es.length ≤ cap ∧ (ad = none → cap = 0) ∧ (∀ x, ad = some x → x.spot = none) := by
                cases ha with
                | sl0 ht ha hs => exact ⟨_, _, rfl, Nat.zero_le _, ha, hs⟩
                | sl f hl hI hm hv hc ht => exact ⟨_, _, rfl, hc, fun h => (by cases h), fun x hx => by cases hx; rfl⟩
              subst hU
              obtain ⟨mc, hmc, hmc1, hmc2, hmx⟩ : ∃ mc, boundA cap mx = some mc ∧ n ≤ mc ∧ mc ≤ cap ∧ (mx.isSome = true → mc = n) ∧ True := by
                cases mx with
                | none => exact ⟨cap, rfl, by omega, Nat.le_refl _, fun h => (by simp at h), trivial⟩
                | some y => exact ⟨m, (boundA_some _ _ y).trans h3, by omega, by omega, fun _ => hmn, trivial⟩
              have hmx : mx.isSome = true → mc = n := hmx.1
              have hrun := run ad es.length cap l n mc (bounds_ok (C := C) (E := E) (w := w) (isS := true) hmh r1 r2 r3 h1 h2 hmc hln hmc1 hmc2)
              refine ⟨_, hrun, ?_⟩
              have hlen : ((es.take n).drop l).length = n - l := by rw [List.length_drop, List.length_take]; omega
              -- the token
              have htok : ∀ ad', (l = 0 → ad' = ad) → TokRel E (sliceTok tk l n es.length mx.isSome) ad' (n - l) (mc - l) := by
                intro ad' had'
                have ht : TokRel E tk ad es.length cap := by cases ha <;> assumption
                unfold sliceTok
                split
                · rename_i hs; have := hmx hs; show mc - l = n - l; omega
                · rename_i hs
                  have hmc' : mc = cap := by cases mx with | none => simpa [boundA] using hmc.symm | some y => simp at hs
                  cases tk with
                  | no => trivial
                  | tight =>
                    simp only []
                    split
                    · have : cap = es.length := ht
                      show mc - l = n - l; omega
                    · trivial
                  | own tt =>
                    simp only []
                    split
                    · rename_i hnl
                      obtain ⟨b, q1, q2, q3⟩ := ht
                      refine ⟨b, ?_, ?_, ?_⟩
                      · rw [show n - l = es.length from by omega]; exact q1
                      · rw [show n - l = es.length from by omega, show mc - l = cap from by omega]; exact q2
                      · rw [had' hnl.2, q3]
                    · trivial
              have hzero : ∀ x : Addr, x.spot = none → x.add (0 * sizeT C.P e) = x := fun x hx => by unfold Addr.add; simp
              by_cases hnl' : n = l
              · subst hnl'
                have hnil : (es.take n).drop n = [] := List.eq_nil_of_length_eq_zero (by rw [hlen]; omega)
                rw [hnil, Nat.sub_self]
                have ht' := htok (if mc = n then ad else ad.map (·.add (n * sizeT C.P e))) (fun h0 => by
                  split
                  · rfl
                  · cases ad with
                    | none => rfl
                    | some x => rw [h0, Option.map_some, hzero x (hspot x rfl)])
                rw [Nat.sub_self] at ht'
                refine .sl0 ht' (fun hn => ?_) (fun x hx => ?_)
                · cases ad with
                  | none => have := hnone rfl; omega
                  | some x => split at hn <;> simp at hn
                · split at hx
                  · exact hspot x hx
                  · cases ad with
                    | none => simp at hx
                    | some y =>
                      simp at hx; subst hx
                      have := hspot y rfl
                      cases y; simp at this; subst this; rw [add_plain]
              · have hne : mc ≠ l := by omega
                rw [if_neg hne]
                cases ha with
                | sl0 ht ha hs => simp at hnl; omega
                | sl f hl hI hm hv hc ht =>
                  rename_i b o s
                  have hs : s = sizeT C.P e := by
                    have h0 : 0 < es.length := by omega
                    have := hl 0 _ (List.getElem?_eq_getElem h0)
                    rw [← this]; exact hall' _ (List.getElem_mem h0)
                  subst hs
                  simp only [Option.map_some, add_plain]
                  rw [← hlen]
                  refine .sl (s := sizeT C.P e) (fun i j => f (l + i) j) (fun i x hx => ?_) (fun i j hi hj => ?_) (fun i x j c hx hc' => ?_) (fun i x j c hx hc' => ?_) (by rw [hlen]; omega) ?_
                  · rw [List.getElem?_drop] at hx
                    have hx' := (take_get hx)
                    exact hl _ _ hx'
                  · rw [hlen] at hi
                    have := hI (l + i) j (by omega) hj
                    rw [show o + l * sizeT C.P e + (i * sizeT C.P e + j) = o + ((l + i) * sizeT C.P e + j) by rw [Nat.add_mul]; omega]
                    exact this
                  · rw [List.getElem?_drop] at hx
                    exact hm _ _ _ _ (take_get hx) hc'
                  · rw [List.getElem?_drop] at hx
                    exact hv _ _ _ _ (take_get hx) hc'
                  · rw [hlen]
                    exact htok _ (fun h0 => by subst h0; simp)
            · cases h
  · rename_i id g off len cap sz' ex
    cases h1 : boundA 0 lo with
    | none => simp [h1] at h
    | some l =>
      simp only [h1, Option.bind_some] at h
      cases h2 : boundA len hi with
      | none => simp [h2] at h
      | some n =>
        simp only [h2, Option.bind_some] at h
        cases h3 : boundA cap mx with
        | none => simp [h3] at h
        | some m =>
          simp only [h3, Option.bind_some] at h
          split at h
          · rename_i hb
            obtain ⟨hsz, hln, hnm, hmc⟩ := hb
            injection h with h; subst h
            cases ha with
            | ms q1 q2 q3 q4 q5 =>
              rename_i off' cap' b
              obtain ⟨mc, hmc', g1, g2, g3, g4⟩ : ∃ mc, boundA cap' mx = some mc ∧ n ≤ mc ∧ mc ≤ cap' ∧ m ≤ mc ∧ ((ex || mx.isSome) = true → mc = m) := by
                cases mx with
                | none =>
                  simp [boundA] at h3
                  exact ⟨cap', rfl, by omega, Nat.le_refl _, by omega, fun h => by have := q4 (by simpa using h); omega⟩
                | some y => exact ⟨m, (boundA_some _ _ y).trans h3, by omega, by omega, Nat.le_refl _, fun _ => rfl⟩
              have hrun := run (some ⟨b, off', none⟩) len cap' l n mc (bounds_ok (C := C) (E := E) (w := w) (isS := true) hmh r1 r2 r3 h1 h2 hmc' hln g1 g2)
              have hadr : (if mc = l then some (⟨b, off', none⟩ : Addr) else (some (⟨b, off', none⟩ : Addr)).map (·.add (l * sizeT C.P e))) = some ⟨b, if mc = l then off' else off' + l * sizeT C.P e, none⟩ := by
                split <;> simp [add_plain]
              rw [hadr] at hrun
              refine ⟨_, hrun, .ms q1 (by omega) (by omega) (fun h => by have := g4 h; omega) (fun hne => ?_)⟩
              rw [if_neg (by omega), q5 (by omega)]
          · cases h
  · cases h
end
end Go.Gm
