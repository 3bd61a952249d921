/- append. -/
import Derived.Test.YtenmplcmmdaibaaGmE2
import Derived.Laws.AppendOwn
namespace Go.Gm
set_option linter.unusedVariables false
set_option linter.unusedSimpArgs false
theorem chunk_len (sz : Nat) : ∀ (n : Nat) (cs : List AVal), (chunk sz n cs).length = n
  | 0, _ => rfl
  | n + 1, cs => by simp [chunk, chunk_len sz n]
theorem chunk_flat (sz : Nat) : ∀ (n : Nat) (cs : List AVal), cs.length = n * sz → (chunk sz n cs).flatten = cs ∧ ∀ x ∈ chunk sz n cs, x.length = sz
  | 0, cs, h => by
    have : cs = [] := List.eq_nil_of_length_eq_zero (by simpa using h)
    subst this; exact ⟨rfl, by simp [chunk]⟩
  | n + 1, cs, h => by
    rw [Nat.add_mul] at h
    obtain ⟨h1, h2⟩ := chunk_flat sz n (cs.drop sz) (by rw [List.length_drop]; omega)
    refine ⟨by simp [chunk, h1], fun x hx => ?_⟩
    simp only [chunk, List.mem_cons] at hx
    rcases hx with rfl | hx
    · rw [List.length_take]; omega
    · exact h2 x hx
theorem mem_flatten_chunk (sz n : Nat) (cs : List AVal) (h : cs.length = n * sz) : ∀ x ∈ chunk sz n cs, ∀ c ∈ x, c ∈ cs := by
  intro x hx c hc
  rw [← (chunk_flat sz n cs h).1]
  exact List.mem_flatten.2 ⟨x, hx, hc⟩
section
variable {C : Cfg} {E : Env} {H : AHeap} {w : World}
/-- The cells of a slice in the model: where, and that they are related. -/
theorem slice_cells (hs : Sim E H w) {es : List (List AVal)} {tk : Tok} {v : Value} (h : VRel E (.sl es tk) v) {sz : Nat} (hsz : ∀ x ∈ es, x.length = sz) :
    ∃ ad cap, v = .slice ad es.length cap ∧ es.length ≤ cap ∧ (ad = none → es = [] ∧ cap = 0) ∧ TokRel E tk ad es.length cap ∧ (∀ x ∈ es, ∀ c ∈ x, isImm c = true) ∧
      ∃ us : List Value, VRels E es.flatten us ∧ ∀ a, ad = some a → a.spot = none ∧ ∀ (j : Nat) (u : Value), us[j]? = some u → E.I a.block (a.off + j) = some u := by
  cases h with
  | sl0 ht ha hsp => exact ⟨_, _, rfl, Nat.zero_le _, fun h => ⟨rfl, ha h⟩, ht, by simp, [], .nil E, fun a h => ⟨hsp a h, fun j u h => by simp at h⟩⟩
  | sl f hl hI hm hv hc ht =>
    rename_i b o s cap
    refine ⟨_, _, rfl, hc, fun h => (by cases h), ht, fun x hx c hcx => ?_, ?_⟩
    · obtain ⟨i, hi, hxi⟩ := List.getElem_of_mem hx
      obtain ⟨j, hj, hcj⟩ := List.getElem_of_mem hcx
      exact hm i x j c (by rw [List.getElem?_eq_getElem hi, hxi]) (by rw [List.getElem?_eq_getElem hj, hcj])
    · have hs' : ∀ x ∈ es, x.length = s := fun x hx => by
        obtain ⟨i, hi, hxi⟩ := List.getElem_of_mem hx
        exact hl i x (by rw [List.getElem?_eq_getElem hi, hxi])
      have hflen := flatten_len es hs'
      by_cases hz : s = 0
      · have : es.flatten = [] := List.eq_nil_of_length_eq_zero (by rw [hflen, hz, Nat.mul_zero])
        exact ⟨[], by rw [this]; exact .nil E, fun a ha => by cases ha; exact ⟨rfl, fun j u h => by simp at h⟩⟩
      · have hgl : ∀ k, k < es.flatten.length → k / s < es.length ∧ k % s < s := fun k hk => by
          rw [hflen] at hk
          exact ⟨(Nat.div_lt_iff_lt_mul (by omega)).2 hk, Nat.mod_lt _ (by omega)⟩
        have hel : ∀ k (hk : k < es.flatten.length), ∃ e c, es[k / s]? = some e ∧ e[k % s]? = some c ∧ es.flatten[k]? = some c := fun k hk => by
          obtain ⟨h1, h2⟩ := hgl k hk
          have hx := hs' _ (List.getElem_mem h1)
          refine ⟨es[k / s], es[k / s][k % s]'(by omega), List.getElem?_eq_getElem h1, List.getElem?_eq_getElem (by omega), ?_⟩
          have := flatten_get es (k / s) (k % s) _ _ hs' (List.getElem?_eq_getElem h1) (List.getElem?_eq_getElem (by omega))
          rwa [Nat.mul_comm, Nat.div_add_mod] at this
        refine ⟨(List.range es.flatten.length).map fun k => f (k / s) (k % s), ⟨by simp, fun k c u h1 h2 => ?_⟩, fun a ha => ?_⟩
        · have hk : k < es.flatten.length := (List.getElem?_eq_some_iff.1 h1).1
          obtain ⟨e, c', g1, g2, g3⟩ := hel k hk
          rw [h1] at g3; cases g3
          rw [List.getElem?_map, List.getElem?_range hk] at h2
          simp at h2; subst h2
          exact hv _ _ _ _ g1 g2
        · cases ha
          refine ⟨rfl, fun k u hu => ?_⟩
          have hk : k < es.flatten.length := by have := (List.getElem?_eq_some_iff.1 hu).1; simpa using this
          rw [List.getElem?_map, List.getElem?_range hk] at hu
          simp at hu; subst hu
          obtain ⟨h1, h2⟩ := hgl k hk
          have := hI (k / s) (k % s) h1 h2
          rwa [Nat.mul_comm (k / s) s, Nat.div_add_mod] at this
/-- The elements that are copied out of a slice. -/
theorem elems_ok (hs : Sim E H w) {x : AVal} {v : Value} (hx : VRel E x v) (hns : ∀ s, x ≠ .str s) {sz : Nat} {es : List (List AVal)} (h : elemsA sz x H = some es) :
    ∃ ad cap, v = .slice ad es.length cap ∧ es.length ≤ cap ∧ (ad = none → es = [] ∧ cap = 0) ∧ (∀ x ∈ es, x.length = sz) ∧ (∀ x ∈ es, ∀ c ∈ x, isImm c = true) ∧
      ∃ us : List Value, VRels E es.flatten us ∧ ∀ a, ad = some a → ∀ (j : Nat) (u : Value), us[j]? = some u → w.cell? (a.add j) = some u := by
  unfold elemsA at h
  split at h
  · rename_i es' tk
    split at h
    · rename_i hall
      injection h with h; subst h
      have hsz : ∀ x ∈ es', x.length = sz := by simpa using hall
      obtain ⟨ad, cap, h1, h2, h3, h4, h5, us, h6, h7⟩ := slice_cells hs hx hsz
      refine ⟨ad, cap, h1, h2, h3, hsz, h5, us, h6, fun a ha j u hu => ?_⟩
      obtain ⟨q1, q2⟩ := h7 a ha
      obtain ⟨b, o, sp⟩ := a
      simp at q1; subst q1
      rw [add_plain]
      exact hs.imm _ _ _ (q2 j u hu)
    · cases h
  · rename_i id g off len cap sz' ex
    split at h
    · rename_i hsz
      cases hg : getCells H id g with
      | none => simp [hg] at h
      | some cs =>
        simp only [hg, Option.bind_some] at h
        split at h
        · rename_i hle
          injection h with h
          obtain ⟨_, b, vs, t, q1, q2, q3, _⟩ := getCells_rel hs hg
          have hlen : (((cs.drop off).take (len * sz)).map immC).length = len * sz := by simp; omega
          obtain ⟨k1, k2⟩ := chunk_flat sz len _ hlen
          have k3 := chunk_len sz len (((cs.drop off).take (len * sz)).map immC)
          cases hx with
          | ms p1 p2 p3 p4 p5 =>
            rename_i off' cap' b'
            rw [q1] at p1; cases p1
            subst h
            rw [k3]
            refine ⟨_, _, rfl, by omega, fun h => (by cases h), k2, fun x hx c hc => ?_, (vs.toList.drop off).take (len * sz), ?_, fun a ha j u hu => ?_⟩
            · exact (List.all_eq_true.1 hle.2) c (mem_flatten_chunk sz len _ hlen x hx c hc)
            · rw [k1]
              have := (q3.drop off).take (len * sz)
              refine ⟨by simpa using this.1, fun i c u h1 h2 => ?_⟩
              rw [List.getElem?_map] at h1
              cases hci : ((cs.drop off).take (len * sz))[i]? with
              | none => simp [hci] at h1
              | some c' => simp [hci] at h1; subst h1; exact immC_rel (this.2 i c' u hci h2)
            · cases ha
              rw [add_plain, cell_of_cells q2]
              by_cases hcap : cap' = 0
              · have : len = 0 := by omega
                subst this
                simp at hu
              · rw [p5 hcap]
                have := take_get hu
                rw [List.getElem?_drop] at this
                simpa using this
        · cases h
    · cases h
  · cases h
def Env.tokE (E : Env) (t n b cap : Nat) (f : Nat → Option Value) : Env where
  φ := fun i j => if i = t ∧ j = n then some b else E.φ i j
  κ := fun i j => if i = t ∧ j = n then some cap else E.κ i j
  I := fun i o => if i = b then f o else E.I i o
theorem run_append_zero {t e : TypeId} (hu : C.P.underlying t = some (.slice e)) (hz : sizeT C.P e ≠ 0) (ty : TypeId) (ad ad' : Option Addr) (len cap cap' : Nat) (hle : len ≤ cap) :
    (Builtin.append_ #[t, t] ty #[.slice ad len cap, .slice ad' 0 cap']).run C.P w = .ok (.slice ad len cap) w := by
  cases ad' <;> cases ad <;> simp [Builtin.append_, Sem.run_bind, run_underlying hu, Result.andThen_ok, run_sizeOf' hz, Builtin.lenOf, hle, Builtin.firstCells, loadCells, loadCellsFrom, storeCells]
/-- What is known behind an append that grew. -/
theorem grown_ok (hs : Sim E H w) {e : TypeId} {sz : Nat} {es ys : List (List AVal)} {us ns : List Value} {cap : Nat} {t : Nat} (z : Value)
    (hes : ∀ x ∈ es, x.length = sz) (hys : ∀ x ∈ ys, x.length = sz) (hes2 : ∀ x ∈ es, ∀ c ∈ x, isImm c = true) (hys2 : ∀ x ∈ ys, ∀ c ∈ x, isImm c = true)
    (hus : VRels E es.flatten us) (hns : VRels E ys.flatten ns) (hzs : z.cells.size = sz) (hcap : es.length + ys.length ≤ cap) (hcm : cap ≤ 9223372036854775807) (hpos : 0 < ys.length) (hszp : 0 < sz)
    {B : Blk} (hB : H[t]? = some B) (hfree : ∀ g, es.length + ys.length ≤ g → E.φ t g = none ∧ E.κ t g = none) :
    let w' := w.drew.alloc (.cells (us.toArray ++ ns.toArray ++ Builtin.zeroCells z.cells (cap - (es.length + ys.length))) e)
    ∃ E', VRel E' (.sl (es ++ ys) (.own t)) (.slice (some ⟨w.heap.size, 0, none⟩) (es.length + ys.length) cap) ∧ Sim E' (H.set t (.tok (es.length + ys.length) e sz)) w' ∧ Step E H w E' (H.set t (.tok (es.length + ys.length) e sz)) w' := by
  intro w'
  have hul : us.length = es.length * sz := by rw [← hus.1, flatten_len es hes]
  have hnl : ns.length = ys.length * sz := by rw [← hns.1, flatten_len ys hys]
  obtain ⟨all, hall⟩ : ∃ all, all = us.toArray ++ ns.toArray ++ Builtin.zeroCells z.cells (cap - (es.length + ys.length)) := ⟨_, rfl⟩
  have hsize : all.size = cap * sz := by
    rw [hall]
    simp only [Array.size_append, List.size_toArray, size_zeroCells, hzs, hul, hnl]
    rw [← Nat.add_mul, ← Nat.add_mul]; congr 1; omega
  have hnew : w'.heap[w.heap.size]? = some (.cells all e (0, 0)) := by
    show (w.heap.push _)[w.heap.size]? = _
    simp [hall]
  have hold : ∀ b, b < w.heap.size → w'.heap[b]? = w.heap[b]? := fun b hb => by
    show (w.heap.push _)[b]? = _
    rw [Array.getElem?_push, if_neg (by omega)]
  let E' := E.tokE t (es.length + ys.length) w.heap.size cap (fun o => if o < (es.length + ys.length) * sz then all[o]? else none)
  have hle : E.le E' := by
    refine ⟨fun i g b hb => ?_, fun i g b hb => ?_, fun b o v hv => ?_⟩
    · have : ¬ (i = t ∧ g = es.length + ys.length) := fun ⟨e1, e2⟩ => by rw [e1, e2, (hfree _ (Nat.le_refl _)).1] at hb; cases hb
      simp [E', Env.tokE, this, hb]
    · have : ¬ (i = t ∧ g = es.length + ys.length) := fun ⟨e1, e2⟩ => by rw [e1, e2, (hfree _ (Nat.le_refl _)).2] at hb; cases hb
      simp [E', Env.tokE, this, hb]
    · have : b ≠ w.heap.size := fun e => by have := hs.imm_lt hv; omega
      simp [E', Env.tokE, this, hv]
  have hφ : E'.φ t (es.length + ys.length) = some w.heap.size := by simp [E', Env.tokE]
  have hκ : E'.κ t (es.length + ys.length) = some cap := by simp [E', Env.tokE]
  have hrel : VRels E (es ++ ys).flatten (us ++ ns) := by rw [List.flatten_append]; exact hus.append hns
  have hmem : ∀ (k : Nat) (u : Value), (us ++ ns)[k]? = some u → all[k]? = some u ∧ k < (es.length + ys.length) * sz := by
    intro k u hu
    have hk : k < (us ++ ns).length := (List.getElem?_eq_some_iff.1 hu).1
    refine ⟨?_, by rw [List.length_append, hul, hnl, ← Nat.add_mul] at hk; exact hk⟩
    rw [hall, Array.getElem?_append_left (by simpa using hk)]
    simpa using hu
  refine ⟨E', ?_, ?_⟩
  · have hlall : ∀ x ∈ es ++ ys, x.length = sz := fun x hx => (List.mem_append.1 hx).elim (hes x) (hys x)
    have him : ∀ x ∈ es ++ ys, ∀ c ∈ x, isImm c = true := fun x hx => (List.mem_append.1 hx).elim (hes2 x) (hys2 x)
    have key : ∀ (i j : Nat) (x : List AVal) (c : AVal), (es ++ ys)[i]? = some x → x[j]? = some c → ∃ u, (us ++ ns)[i * sz + j]? = some u ∧ VRel E c u := fun i j x c h1 h2 => hrel.get (flatten_get _ i j x c hlall h1 h2)
    have hcap' : (es ++ ys).length ≤ cap := by rw [List.length_append]; exact hcap
    have := VRel.sl (E := E') (es := es ++ ys) (tk := .own t) (b := w.heap.size) (o := 0) (s := sz) (cap := cap) (fun i j => ((us ++ ns)[i * sz + j]?).getD undef) (fun i x h => hlall x (List.mem_of_getElem? h)) (fun i j hi hj => ?_)
      (fun i x j c h1 h2 => him x (List.mem_of_getElem? h1) c (List.mem_of_getElem? h2)) (fun i x j c h1 h2 => ?_) hcap' ⟨w.heap.size, by rw [List.length_append]; exact hφ, by rw [List.length_append]; exact hκ, rfl⟩
    · rw [List.length_append] at this; exact this
    · have hx := hlall _ (List.getElem_mem hi)
      obtain ⟨u, h1, _⟩ := key i j (es ++ ys)[i] ((es ++ ys)[i][j]'(by omega)) (List.getElem?_eq_getElem hi) (List.getElem?_eq_getElem (by omega))
      obtain ⟨h2, h3⟩ := hmem _ _ h1
      rw [h1]
      simp only [E', Env.tokE, Nat.zero_add, if_true, if_pos h3, h2, Option.getD_some]
    · obtain ⟨u, h3, h4⟩ := key i j x c h1 h2
      rw [h3]; exact h4.mono hle
  · have hblk : BlkRel E' w' t (.tok (es.length + ys.length) e sz) := by
      refine ⟨w.heap.size, cap, all, hφ, hκ, hnew, hsize, hcap, hcm, fun o ho => ?_⟩
      simp [E', Env.tokE, Nat.not_lt.2 ho]
    have := hs.upd (E' := E') (w' := w') hB hle hblk (fun i g b hi hb => by simpa [E', Env.tokE, hi] using hb) (fun i g b hi hb => by simpa [E', Env.tokE, hi] using hb) (fun b hb _ => hold b hb)
      (fun b hb _ => by funext o; simp [E', Env.tokE, show b ≠ w.heap.size from by omega]) (fun b o v hv hcase => ?_) (fun b hb => ?_) (fun n e' sz' hB' g hg => ?_) rfl rfl rfl ?_
    · exact this
    · by_cases hbn : b = w.heap.size
      · subst hbn
        rw [cell_of_cells hnew]
        simp only [E', Env.tokE, if_true] at hv
        split at hv
        · exact hv
        · cases hv
      · simp only [E', Env.tokE, if_neg hbn] at hv
        have hlt := hs.imm_lt hv
        rw [World.cell?_of_block (w := w) (hold b hlt)]
        exact hs.imm _ _ _ hv
    · simp only [locB] at hb
      rw [hφ] at hb; cases hb
      exact .inr (Nat.le_refl _)
    · cases hB'
      have hne : ¬ (g = es.length + ys.length) := by omega
      obtain ⟨q1, q2⟩ := hfree g (by omega)
      exact ⟨by simp [E', Env.tokE, hne, q1], by simp [E', Env.tokE, hne, q2]⟩
    · show w.heap.size ≤ (w.heap.push _).size
      simp
theorem room_ok (hs : Sim E H w) {t e ty : TypeId} {i : TypeInfo} {es ys : List (List AVal)} {tt capx capy : Nat} {adx : Option Addr} {a : Addr} {ns : List Value} (hu : C.P.underlying t = some (.slice e)) (hi : C.P.info? e = some i) (hisz : i.size = sizeT C.P e)
    (hx : VRel E (.sl es (.own tt)) (.slice adx es.length capx)) (hx3 : ∀ x ∈ es, x.length = sizeT C.P e) (hx4 : ∀ x ∈ es, ∀ c ∈ x, isImm c = true) (hy3 : ∀ x ∈ ys, x.length = sizeT C.P e) (hy4 : ∀ x ∈ ys, ∀ c ∈ x, isImm c = true) (hy5 : VRels E ys.flatten ns) (hnl : ns.length = ys.length * i.size)
    (hy6 : ∀ b, some a = some b → ∀ (j : Nat) (u : Value), ns[j]? = some u → w.cell? (b.add j) = some u) (hone : ∀ q ∈ ns, q.oneCell' = true) (hroom : es.length + ys.length ≤ capx)
    (hH : H[tt]? = some (.tok es.length e (sizeT C.P e))) (hsz : 0 < sizeT C.P e) (hpos : 0 < ys.length) :
    ∃ r w' E', (Builtin.append_ #[t, t] ty #[.slice adx es.length capx, .slice (some a) ys.length capy]).run C.P w = .ok r w' ∧ VRel E' (.sl (es ++ ys) (.own tt)) r ∧ Sim E' (H.set tt (.tok (es.length + ys.length) e (sizeT C.P e))) w' ∧ Step E H w E' (H.set tt (.tok (es.length + ys.length) e (sizeT C.P e))) w' := by
  obtain ⟨ad2, cap2, e1, _, _, hto, _, us, hx5, hx7⟩ := slice_cells hs hx hx3
  injection e1 with e1 _ e2
  subst e1; subst e2
  obtain ⟨b, q1, q2, rfl⟩ := hto
  obtain ⟨b', cap', cs, p1, p2, p3, p4, p5, p6, p7⟩ := hs.blk tt _ hH
  rw [q1] at p1; cases p1
  rw [q2] at p2; cases p2
  obtain ⟨_, hx8⟩ := hx7 _ rfl
  simp only [Nat.zero_add] at hx8
  have hul : us.length = es.length * sizeT C.P e := by rw [← hx5.1, flatten_len es hx3]
  have hnl' : ns.length = ys.length * sizeT C.P e := by rw [hnl, hisz]
  have hfit : es.length * i.size + ns.length ≤ cs.size := by rw [hnl, hisz, p4, ← Nat.add_mul]; exact Nat.mul_le_mul_right _ hroom
  have hrun := run_append_room (P := C.P) w t ty e i hu hi b es.length capx cs p3 a ys.length capy ns hnl (hy6 a rfl) hone hroom hfit
  rw [hisz] at hrun hfit
  obtain ⟨all, hall⟩ : ∃ all : Array Value, all = (cs.toList.take (es.length * sizeT C.P e) ++ ns ++ cs.toList.drop (es.length * sizeT C.P e + ns.length)).toArray := ⟨_, rfl⟩
  rw [← hall] at hrun
  have hnew : (w.setRow b all).heap[b]? = some (.cells all e (0, 0)) := setRow_heap w b cs all e _ p3
  have hsize : all.size = cs.size := by rw [hall]; simp; omega
  have hget1 : ∀ k, k < es.length * sizeT C.P e → all[k]? = cs[k]? := fun k hk => by
    rw [hall, List.getElem?_toArray, List.append_assoc, List.getElem?_append_left (by simp; omega), List.getElem?_take_of_lt hk]; simp
  have hget2 : ∀ k, k < ns.length → all[es.length * sizeT C.P e + k]? = ns[k]? := fun k hk => by
    rw [hall, List.getElem?_toArray, List.append_assoc, List.getElem?_append_right (by simp; omega), List.getElem?_append_left (by simp; omega)]
    congr 1; simp; omega
  have hlate := hs.late tt _ _ _ hH
  have hfree : E.φ tt (es.length + ys.length) = none ∧ E.κ tt (es.length + ys.length) = none := hlate _ (by omega)
  let E' := E.tokE tt (es.length + ys.length) b capx (fun o => if o < es.length * sizeT C.P e then E.I b o else ns[o - es.length * sizeT C.P e]?)
  have hle : E.le E' := by
    refine ⟨fun i g b hb => ?_, fun i g b hb => ?_, fun b' o v hv => ?_⟩
    · have : ¬ (i = tt ∧ g = es.length + ys.length) := fun ⟨e1, e2⟩ => by rw [e1, e2, hfree.1] at hb; cases hb
      simp [E', Env.tokE, this, hb]
    · have : ¬ (i = tt ∧ g = es.length + ys.length) := fun ⟨e1, e2⟩ => by rw [e1, e2, hfree.2] at hb; cases hb
      simp [E', Env.tokE, this, hb]
    · by_cases hb : b' = b
      · subst hb
        have : o < es.length * sizeT C.P e := by
          rcases Nat.lt_or_ge o (es.length * sizeT C.P e) with h | h
          · exact h
          · rw [p7 o h] at hv; cases hv
        simp [E', Env.tokE, this, hv]
      · simp [E', Env.tokE, hb, hv]
  have hφ : E'.φ tt (es.length + ys.length) = some b := by simp [E', Env.tokE]
  have hκ : E'.κ tt (es.length + ys.length) = some capx := by simp [E', Env.tokE]
  have hrel : VRels E (es ++ ys).flatten (us ++ ns) := by rw [List.flatten_append]; exact hx5.append hy5
  have hmem : ∀ (k : Nat) (u : Value), (us ++ ns)[k]? = some u → E'.I b k = some u := by
    intro k u hu
    rw [List.getElem?_append] at hu
    simp only [E', Env.tokE, if_true]
    split at hu
    · rename_i hk
      rw [if_pos (by omega)]
      exact hx8 k u hu
    · rename_i hk
      rw [if_neg (by omega), ← hul]
      exact hu
  refine ⟨_, _, E', hrun, ?_, ?_⟩
  · have hlall : ∀ x ∈ es ++ ys, x.length = sizeT C.P e := fun x hx => (List.mem_append.1 hx).elim (hx3 x) (hy3 x)
    have him : ∀ x ∈ es ++ ys, ∀ c ∈ x, isImm c = true := fun x hx => (List.mem_append.1 hx).elim (hx4 x) (hy4 x)
    have key : ∀ (i j : Nat) (x : List AVal) (c : AVal), (es ++ ys)[i]? = some x → x[j]? = some c → ∃ u, (us ++ ns)[i * sizeT C.P e + j]? = some u ∧ VRel E c u := fun i j x c h1 h2 => hrel.get (flatten_get _ i j x c hlall h1 h2)
    have hcap' : (es ++ ys).length ≤ capx := by rw [List.length_append]; exact hroom
    have := VRel.sl (E := E') (es := es ++ ys) (tk := .own tt) (b := b) (o := 0) (s := sizeT C.P e) (cap := capx) (fun i j => ((us ++ ns)[i * sizeT C.P e + j]?).getD undef) (fun i x h => hlall x (List.mem_of_getElem? h)) (fun i j hi hj => ?_)
      (fun i x j c h1 h2 => him x (List.mem_of_getElem? h1) c (List.mem_of_getElem? h2)) (fun i x j c h1 h2 => ?_) hcap' ⟨b, by rw [List.length_append]; exact hφ, by rw [List.length_append]; exact hκ, rfl⟩
    · rw [List.length_append] at this; exact this
    · have hx := hlall _ (List.getElem_mem hi)
      obtain ⟨u, h1, _⟩ := key i j (es ++ ys)[i] ((es ++ ys)[i][j]'(by omega)) (List.getElem?_eq_getElem hi) (List.getElem?_eq_getElem (by omega))
      rw [Nat.zero_add, hmem _ _ h1, h1]; rfl
    · obtain ⟨u, h3, h4⟩ := key i j x c h1 h2
      rw [h3]; exact h4.mono hle
  · have hblk : BlkRel E' (w.setRow b all) tt (.tok (es.length + ys.length) e (sizeT C.P e)) := by
      refine ⟨b, capx, all, hφ, hκ, hnew, by rw [hsize, p4], hroom, p6, fun o ho => ?_⟩
      rw [Nat.add_mul] at ho
      simp only [E', Env.tokE, if_true]
      rw [if_neg (by omega), List.getElem?_eq_none (by omega)]
    refine hs.upd (E' := E') (w' := w.setRow b all) hH hle hblk (fun i g b hi hb => by simpa [E', Env.tokE, hi] using hb) (fun i g b hi hb => by simpa [E', Env.tokE, hi] using hb) (fun x hx hne => setRow_other w b x all (fun e => hne (by rw [e]; exact q1)))
      (fun x hx hne => by funext o; simp [E', Env.tokE, show x ≠ b from fun e => hne (by rw [e]; exact q1)]) (fun x o v hv hcase => ?_) (fun x hx => .inl ?_) (fun n e' sz' hB' g hg => ?_) rfl rfl rfl (by simp)
    · have hxb : x = b := by
        rcases hcase with hcase | hcase
        · have hlt : b < w.heap.size := (Array.getElem?_eq_some_iff.1 p3).1
          by_cases hxb : x = b
          · exact hxb
          · simp only [E', Env.tokE, if_neg hxb] at hv
            have := hs.imm_lt hv; omega
        · simp only [locB] at hcase
          rw [q1] at hcase; cases hcase; rfl
      subst hxb
      rw [cell_of_cells hnew]
      simp only [E', Env.tokE, if_true] at hv
      split at hv
      · rename_i ho
        rw [hget1 o ho, ← cell_of_cells p3]
        exact hs.imm _ _ _ hv
      · rename_i ho
        have hlt := (List.getElem?_eq_some_iff.1 hv).1
        have := hget2 (o - es.length * sizeT C.P e) hlt
        rw [show es.length * sizeT C.P e + (o - es.length * sizeT C.P e) = o from by omega] at this
        rw [this]; exact hv
    · simp only [locB] at hx ⊢
      rw [hφ] at hx; cases hx; exact q1
    · cases hB'
      have hne : ¬ (g = es.length + ys.length) := by omega
      obtain ⟨r1, r2⟩ := hlate g (by omega)
      exact ⟨by simp [E', Env.tokE, hne, r1], by simp [E', Env.tokE, hne, r2]⟩
theorem append_ok (hs : Sim E H w) {t e ty : TypeId} {x y z : AVal} {u v : Value} {H' : AHeap} (hu : C.P.underlying t = some (.slice e)) (hk : okT C.P e = true) (hx : VRel E x u) (hy : VRel E y v) (hnx : ∀ s, x ≠ .str s) (hny : ∀ s, y ≠ .str s)
    (h : appendA e (sizeT C.P e) (bytesT C.P e) x y H = some (z, H')) :
    ∃ r w' E', (Builtin.append_ #[t, t] ty #[u, v]).run C.P w = .ok r w' ∧ VRel E' z r ∧ Sim E' H' w' ∧ Step E H w E' H' w' := by
  obtain ⟨_, hsz, _, hz1, i, zz, hi, hz, hisz⟩ := okT_parts hk
  have hby : bytesT C.P e = i.bytes := by simp [bytesT, hi]
  have hzs : zz.cells.size = sizeT C.P e := hz1 zz (by simp [hi, hz])
  unfold appendA at h
  cases hey : elemsA (sizeT C.P e) y H with
  | none => simp [hey] at h
  | some ys =>
    simp only [hey, Option.bind_some] at h
    cases hex : elemsA (sizeT C.P e) x H with
    | none => simp [hex] at h
    | some es =>
      simp only [hex, Option.bind_some] at h
      obtain ⟨ady, capy, rfl, hy1, hy2, hy3, hy4, ns, hy5, hy6⟩ := elems_ok hs hy hny hey
      obtain ⟨adx, capx, hux, hx1, hx2, hx3, hx4, us, hx5, hx6⟩ := elems_ok hs hx hnx hex
      subst hux
      have hnl : ns.length = ys.length * i.size := by rw [← hy5.1, flatten_len ys hy3, hisz]
      have hul : us.length = es.length * i.size := by rw [← hx5.1, flatten_len es hx3, hisz]
      split at h
      · rename_i h0
        have h' : some (x, H) = some (z, H') := h
        · injection h' with h'
          simp only [Prod.mk.injEq] at h'
          obtain ⟨rfl, rfl⟩ := h'
          rw [h0]
          exact ⟨_, w, E, run_append_zero hu hsz ty adx ady es.length capx capy hx1, hx, hs, .refl _ _ _⟩
      · rename_i h0
        split at h
        · rename_i hb
          obtain ⟨hb1, hb2⟩ := hb
          have hpos : 0 < ys.length := by omega
          obtain ⟨a, rfl⟩ : ∃ a, ady = some a := by
            cases ady with
            | none => have := (hy2 rfl).1; subst this; simp at h0
            | some a => exact ⟨a, rfl⟩
          have hone : ∀ q ∈ ns, q.oneCell' = true := by
            intro q hq
            obtain ⟨k, hk', hqk⟩ := List.getElem_of_mem hq
            have hkk : k < ys.flatten.length := by rw [hy5.1]; exact hk'
            have him : isImm ys.flatten[k] = true := by
              obtain ⟨x', hx', hc'⟩ := List.mem_flatten.1 (List.getElem_mem hkk)
              exact hy4 x' hx' _ hc'
            exact ((hy5.2 k _ q (List.getElem?_eq_getElem hkk) (by rw [List.getElem?_eq_getElem hk', hqk])).one (isImm_scal him)).1
          have hb1' : (es.length + ys.length) * i.bytes ≤ 140737488355328 := by rw [← hby]; exact hb1
          -- growth
          have grow : ∀ (tt : Nat) (H1 : AHeap) (B : Blk), Sim E H1 w → H1[tt]? = some B → (∀ g, es.length + ys.length ≤ g → E.φ tt g = none ∧ E.κ tt g = none) → capx < es.length + ys.length →
              ∃ r w' E', (Builtin.append_ #[t, t] ty #[.slice adx es.length capx, .slice (some a) ys.length capy]).run C.P w = .ok r w' ∧ VRel E' (.sl (es ++ ys) (.own tt)) r ∧ Sim E' (H1.set tt (.tok (es.length + ys.length) e (sizeT C.P e))) w' ∧ Step E H1 w E' (H1.set tt (.tok (es.length + ys.length) e (sizeT C.P e))) w' := by
            intro tt H1 B hs1 hB hfree hlt
            obtain ⟨E', g1, g2, g3⟩ := grown_ok hs1 (e := e) (cap := grownCap w (es.length + ys.length) capx e) zz hx3 hy3 hx4 hy4 hx5 hy5 hzs (grownCap_ge w _ _ _) (by
              have := grownCap_le_maxLen w (es.length + ys.length) capx e (by unfold maxLen; omega)
              unfold maxLen at this; omega) hpos (by omega) hB hfree
            refine ⟨_, _, E', ?_, g1, g2, g3⟩
            cases adx with
            | none =>
              obtain ⟨he0, hc0⟩ := hx2 rfl
              subst he0; subst hc0
              have hus0 : us = [] := List.eq_nil_of_length_eq_zero (by simpa using hul)
              subst hus0
              have := run_append_nil (P := C.P) w t ty e i zz hu hi hz a ys.length capy ns hnl (hy6 a rfl) hpos (by have q := hb2; simp only [List.length_nil, Nat.zero_add] at q; omega) (by have q := hb1'; simp only [List.length_nil, Nat.zero_add] at q; omega)
              simpa using this
            | some ax =>
              exact run_append_grow (P := C.P) w t ty e i zz hu hi hz ax es.length capx us hul (hx6 ax rfl) a ys.length capy ns hnl (hy6 a rfl) hlt (by omega) (growslice_fits (by omega) hb1')
          have growNew : capx < es.length + ys.length → some (.sl (es ++ ys) (.own H.length), H ++ [.tok (es.length + ys.length) e (sizeT C.P e)]) = some (z, H') →
              ∃ r w' E', (Builtin.append_ #[t, t] ty #[.slice adx es.length capx, .slice (some a) ys.length capy]).run C.P w = .ok r w' ∧ VRel E' z r ∧ Sim E' H' w' ∧ Step E H w E' H' w' := by
            intro hlt heq
            injection heq with heq
            simp only [Prod.mk.injEq] at heq
            obtain ⟨rfl, rfl⟩ := heq
            obtain ⟨r, w', E', q1, q2, q3, q4⟩ := grow H.length (H ++ [Blk.dead]) .dead hs.dead (by simp) (fun g hg => ⟨by
              cases hx : E.φ H.length g with
              | none => rfl
              | some b => have := hs.dom _ _ _ hx; omega, by
              cases hx : E.κ H.length g with
              | none => rfl
              | some b => have := hs.domk _ _ _ hx; omega⟩) hlt
            have hset : (H ++ [Blk.dead]).set H.length (.tok (es.length + ys.length) e (sizeT C.P e)) = H ++ [.tok (es.length + ys.length) e (sizeT C.P e)] := by simp
            rw [hset] at q3 q4
            exact ⟨r, w', E', q1, q2, q3, (Step.dead E H w).trans q4⟩
          split at h
          · rename_i es'
            have hes' : es' = es := by
              unfold elemsA at hex
              simp only at hex
              split at hex
              · injection hex
              · cases hex
            subst hes'
            have htight : capx = es'.length := by cases hx <;> assumption
            exact growNew (by omega) h
          · rename_i es' tt
            have hes' : es' = es := by
              unfold elemsA at hex
              simp only at hex
              split at hex
              · injection hex
              · cases hex
            subst hes'
            split at h
            · rename_i n e' sz' hH
              split at h
              · rename_i hcond
                obtain ⟨rfl, rfl, rfl⟩ := hcond
                injection h with h
                simp only [Prod.mk.injEq] at h
                obtain ⟨rfl, rfl⟩ := h
                have hlate := hs.late tt _ _ _ hH
                by_cases hroom : es'.length + ys.length ≤ capx
                · -- there is room
                  exact room_ok hs hu hi hisz hx hx3 hx4 hy3 hy4 hy5 hnl hy6 hone hroom hH (by omega) hpos
                · exact grow tt H _ hs hH (fun g hg => hlate g (by omega)) (by omega)
              · cases h
            · cases h
          · rename_i id g off len cap sz' 
            split at h
            · rename_i hlt
              cases hx with
              | ms p1 p2 p3 p4 p5 =>
                have := p4 rfl
                exact growNew (by omega) h
            · cases h
          · cases h
        · cases h
end
end Go.Gm
