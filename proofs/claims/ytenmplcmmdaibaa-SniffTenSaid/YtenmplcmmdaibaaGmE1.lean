/- Operations that lay a block, and stores. -/
import Derived.Test.YtenmplcmmdaibaaGmD9
namespace Go.Gm
set_option linter.unusedVariables false
set_option linter.unusedSimpArgs false
theorem wrap_small {n : Int} (h0 : 0 ≤ n) (h : n ≤ 140737488355328) : IntKind.i64.wrap n = n := by
  have h1 : IntKind.i64.bits = 64 := rfl
  have h2 : IntKind.i64.signed = true := rfl
  unfold IntKind.wrap
  simp only [h1, h2, Bool.true_and, decide_eq_true_eq]
  have : n % 2 ^ 64 = n := Int.emod_eq_of_lt h0 (by omega)
  simp only [this]
  rw [if_neg (by omega)]
theorem run_zero {P : Program} {t : TypeId} {i : TypeInfo} {z : Value} (hi : P.info? t = some i) (hz : i.zero = some z) (w : World) : (zeroValue t).run P w = .ok z w := by
  simp [zeroValue, typeInfo, hi, hz, program, Sem.run_bind, Sem.run, Result.andThen]
section
variable {C : Cfg} {E : Env} {H : AHeap} {w : World}
/-- A block of the model that nobody owns yet, and what it holds. -/
structure Fresh (E : Env) (H : AHeap) (w : World) (b : Nat) (B : Blk) : Prop where
  lt : b < w.heap.size
  free : ¬ Owned E H b
  imm : ∀ o, E.I b o = none
  rel : (∃ cells cs t, B = .cel 0 cells ∧ w.heap[b]? = some (.cells cs t (0, 0)) ∧ VRels E cells cs.toList) ∨ (B = .map [] ∧ ∃ clock, w.heap[b]? = some (.map #[] clock))
/-- It is taken into the heap. -/
theorem Fresh.take {E0 : Env} {H0 : AHeap} {w0 : World} (hs : Sim E H w) (st : Step E0 H0 w0 E H w) {b : Nat} {B : Blk} (h : Fresh E H w b B) (hb : w0.heap.size ≤ b) :
    Sim (E.setφ H.length 0 b) (H ++ [B]) w ∧ Step E0 H0 w0 (E.setφ H.length 0 b) (H ++ [B]) w := by
  have hno : ∀ g x, E.φ H.length g = some x → False := fun g x hx => by have := hs.dom _ _ _ hx; omega
  have hnoκ : ∀ g x, E.κ H.length g = some x → False := fun g x hx => by have := hs.domk _ _ _ hx; omega
  have hle : E.le (E.setφ H.length 0 b) := by
    refine ⟨fun i g x hx => ?_, fun _ _ _ h => h, fun _ _ _ h => h⟩
    have : ¬ (i = H.length ∧ g = 0) := fun ⟨e1, e2⟩ => hno g x (e1 ▸ hx)
    simp [Env.setφ, this, hx]
  have hloc : locB (E.setφ H.length 0 b) H.length B = some b := by
    rcases h.rel with ⟨cells, cs, t, rfl, _⟩ | ⟨rfl, _⟩ <;> simp [locB, Env.setφ]
  have hblk : BlkRel (E.setφ H.length 0 b) w H.length B := by
    rcases h.rel with ⟨cells, cs, t, rfl, h1, h2⟩ | ⟨rfl, ck, h1⟩
    · exact ⟨b, cs, t, by simp [Env.setφ], h1, h2.mono hle, h.imm⟩
    · exact ⟨b, #[], ck, by simp [Env.setφ], h1, rfl, fun i k v hi => by simp at hi⟩
  have hset : (H ++ [Blk.dead]).set H.length B = H ++ [B] := by simp
  have keep : ∀ i Bi, H[i]? = some Bi → BlkRel (E.setφ H.length 0 b) w i Bi ∧ ∀ x, locB (E.setφ H.length 0 b) i Bi = some x ↔ locB E i Bi = some x :=
    fun i Bi hi => (hs.blk i Bi hi).keep hle (fun _ _ => rfl) (fun _ _ => rfl)
  have locs : ∀ i x, loc (E.setφ H.length 0 b) (H ++ [B]) i = some x → (i = H.length ∧ x = b) ∨ (i < H.length ∧ loc E H i = some x) := by
    intro i x hl
    unfold loc at hl
    rw [List.getElem?_append] at hl
    split at hl
    · rename_i hi
      refine .inr ⟨hi, ?_⟩
      unfold loc
      rw [List.getElem?_eq_getElem hi] at hl ⊢
      simp only [Option.bind_some] at hl ⊢
      exact ((keep i _ (List.getElem?_eq_getElem hi)).2 x).1 hl
    · rename_i hi
      cases hx : i - H.length with
      | succ n => simp [hx] at hl
      | zero =>
        have : i = H.length := by omega
        subst this
        rw [hx] at hl
        simp only [List.getElem?_cons_zero, Option.bind_some] at hl
        rw [hloc] at hl; cases hl; exact .inl ⟨rfl, rfl⟩
  have geth : ∀ i Bi, (H ++ [B])[i]? = some Bi → (i < H.length ∧ H[i]? = some Bi) ∨ (i = H.length ∧ Bi = B) := by
    intro i Bi hi
    rw [List.getElem?_append] at hi
    split at hi
    · rename_i hlt; exact .inl ⟨hlt, hi⟩
    · rename_i hlt
      cases hx : i - H.length with
      | succ n => simp [hx] at hi
      | zero => rw [hx] at hi; simp at hi; exact .inr ⟨by omega, hi.symm⟩
  constructor
  · refine ⟨fun i Bi hi => ?_, fun i g x hx => ?_, fun i g x hx => ?_, fun i n e sz hi g hg => ?_, fun i i' x h1 h2 => ?_, fun b' o v hv => hs.imm b' o v hv⟩
    · rcases geth i Bi hi with ⟨_, hi'⟩ | ⟨rfl, rfl⟩
      · exact (keep i Bi hi').1
      · exact hblk
    · simp only [List.length_append, List.length_singleton]
      by_cases e : i = H.length
      · omega
      · simp only [Env.setφ, e, false_and, if_false] at hx
        have := hs.dom i g x hx; omega
    · simp only [List.length_append, List.length_singleton]
      have := hs.domk i g x hx; omega
    · rcases geth i _ hi with ⟨hlt, hi'⟩ | ⟨rfl, hB⟩
      · obtain ⟨h1, h2⟩ := hs.late i n e sz hi' g hg
        exact ⟨by simp [Env.setφ, show i ≠ H.length from by omega, h1], h2⟩
      · rcases h.rel with ⟨cells, cs, t, rfl, _⟩ | ⟨rfl, _⟩ <;> cases hB
    · rcases locs i x h1 with ⟨e1, e2⟩ | ⟨e1, e2⟩ <;> rcases locs i' x h2 with ⟨e3, e4⟩ | ⟨e3, e4⟩
      · omega
      · subst e2; exact absurd ⟨i', e4⟩ h.free
      · subst e4; exact absurd ⟨i, e2⟩ h.free
      · exact hs.inj i i' x e2 e4
  · refine ⟨st.le.trans hle, st.os, st.tape, st.output, st.size, st.frame, fun x ⟨i, hi⟩ => ?_, st.imm⟩
    rcases locs i x hi with ⟨_, rfl⟩ | ⟨_, h2⟩
    · exact .inr hb
    · exact st.own x ⟨i, h2⟩
theorem World.heap_new (w : World) (o : Obj) : (w.alloc o).heap[w.heap.size]? = some o := by simp [World.alloc, -World.alloc_eq]
theorem World.heap_old (w : World) (o : Obj) {b : Nat} (h : b < w.heap.size) : (w.alloc o).heap[b]? = w.heap[b]? := by
  show (w.heap.push o)[b]? = _
  rw [Array.getElem?_push, if_neg (by omega)]
/-- A block is laid in the model: all that was stays. -/
theorem Sim.laid (hs : Sim E H w) (o : Obj) : Sim E H (w.alloc o) ∧ Step E H w E H (w.alloc o) :=
  hs.ext (.refl E) (fun _ _ _ h => h) (fun _ _ _ h => h) (fun b hb => World.heap_old w o hb) (fun _ _ => rfl) (fun b o v hv hb => by have := hs.imm_lt hv; omega) rfl rfl rfl (by simp [World.alloc, -World.alloc_eq])
theorem Sim.free_new (hs : Sim E H w) : ¬ Owned E H w.heap.size := fun ⟨i, hi⟩ => by have := hs.block_lt hi; omega
theorem Sim.imm_new (hs : Sim E H w) (o : Nat) : E.I w.heap.size o = none := by
  cases h : E.I w.heap.size o with
  | none => rfl
  | some v => have := hs.imm_lt h; omega
theorem repl_cells (z : Array Value) (n : Nat) (hz : z.size ≠ 0) : ((Array.range (n * z.size)).map (z[· % z.size]!)).toList = (List.replicate n z.toList).flatten := by
  apply List.ext_getElem?
  intro k
  have hl : ∀ x ∈ List.replicate n z.toList, x.length = z.size := fun x hx => by rw [List.mem_replicate] at hx; rw [hx.2]; simp
  by_cases hk : k < n * z.size
  · have h1 : k / z.size < n := (Nat.div_lt_iff_lt_mul (by omega)).2 hk
    have h2 : k % z.size < z.size := Nat.mod_lt _ (by omega)
    have := flatten_get (List.replicate n z.toList) (k / z.size) (k % z.size) z.toList z[k % z.size] hl (by rw [List.getElem?_replicate, if_pos h1]) (by simp [h2])
    rw [Nat.mul_comm, Nat.div_add_mod] at this
    rw [this]
    simp [hk, h2]
  · rw [List.getElem?_eq_none (by simp; omega), List.getElem?_eq_none (by rw [flatten_len _ hl]; simp; omega)]
theorem VRels.flatten_repl {xs : List AVal} {vs : List Value} (h : VRels E xs vs) : ∀ n, VRels E (List.replicate n xs).flatten (List.replicate n vs).flatten
  | 0 => .nil E
  | n + 1 => by
    simp only [List.replicate_succ, List.flatten_cons]
    exact h.append (h.flatten_repl n)
/-- What an operation that lays a block comes to: a value that names the new block, which nobody owns yet. -/
structure LaysTo (E : Env) (H : AHeap) (C : Cfg) (w : World) (s : Sem Next) (z : AVal) (H' : AHeap) (st : AHeap → Option (AVal × AHeap)) where
  ex : ∃ (B : Blk) (v : Value) (o : Obj) (f : Nat → AVal), H' = H ++ [B] ∧ z = f H.length ∧ (∀ H2 : AHeap, st H2 = some (f H2.length, H2 ++ [B])) ∧ s.run C.P w = .ok (.value v) (w.alloc o) ∧ Fresh E H (w.alloc o) w.heap.size B ∧
    (∀ (E' : Env) (n : Nat), E'.φ n 0 = some w.heap.size → VRel E' (f n) v)
theorem alloc_ok (hs : Sim E H w) {t : TypeId} {z : AVal} {H' : AHeap} {s : Sem Next} {cells : List AVal} {cs : Array Value} {tt : TypeId} (hrun : s.run C.P w = .ok (.value (.pointer (some ⟨w.heap.size, 0, none⟩))) (w.alloc (.cells cs tt))) (hr : VRels E cells cs.toList)
    (h : allocA (some cells) H = some (z, H')) :
    LaysTo E H C w s z H' (allocA (some cells)) := by
  unfold allocA at h
  simp only [Option.bind_some] at h
  split at h
  · injection h with h
    simp only [Prod.mk.injEq] at h
    obtain ⟨rfl, rfl⟩ := h
    refine ⟨.cel 0 cells, _, _, fun n => .ptr n 0 0, rfl, rfl, fun H2 => by simp only [allocA, Option.bind_some]; rw [if_pos (by assumption)], hrun, ⟨by simp [World.alloc, -World.alloc_eq], hs.free_new, hs.imm_new, .inl ⟨cells, cs, tt, rfl, World.heap_new w _, hr⟩⟩, fun E' n hn => .ptr hn⟩
  · cases h
theorem stepA_ok (hs : Sim E H w) {r : Operand → AVal} {ρ : Operand → Value} (hr : ∀ x, VRel E (r x) (ρ x)) {o : Oper} {z : AVal} {H' : AHeap} (h : stepA C o.op r H = some (z, H')) : LaysTo E H C w (execOp ρ o) z H' (stepA C o.op r) := by
  cases hop : o.op with
  | alloc t =>
    simp only [hop, stepA] at h
    split at h
    · cases h
    · rename_i hk
      obtain ⟨_, _, _, _, i, zz, hi, hz, _⟩ := okT_parts (P := C.P) (t := t) (by simpa using hk)
      have hzT : zeroT C.P t = some (zz.cells.toList.map abs0) := by simp [zeroT, hi, hz]
      rw [hzT] at h
      have hst : stepA C (.alloc t) r = allocA (some (zz.cells.toList.map abs0)) := by funext H2; simp only [stepA]; rw [if_neg (by assumption), hzT]
      rw [hst]
      refine alloc_ok (t := t) (tt := t) hs ?_ (zero_rel zz) h
      simp only [execOp, hop, Instr.alloc, Sem.run_bind, run_zero hi hz, Result.andThen_ok, newVar, newRow, newObj, Sem.run, Sem.run_pure]
      rfl
  | box t x =>
    simp only [hop, stepA] at h
    split at h
    · rename_i cs hcs
      split at h
      · cases h
      · rename_i hk
        obtain ⟨k1, k2⟩ := acells_rel (hr x) hcs
        have hst : stepA C (.box t x) r = allocA (some cs) := by funext H2; simp only [stepA, hcs]; rw [if_neg hk]
        rw [hst]
        refine alloc_ok (t := t) (tt := t) hs ?_ k1 h
        simp only [execOp, hop, Instr.box, Sem.run_bind, newVar, newRow, newObj, Sem.run, Sem.run_pure, Result.andThen_ok]
        rfl
    · cases h
  | makeSlice t l c =>
    simp only [hop, stepA] at h
    split at h
    · rename_i e hu
      split at h
      · cases h
      · rename_i hk
        obtain ⟨_, hsz, _, hz1, i, zz, hi, hz, hisz⟩ := okT_parts (P := C.P) (t := e) (by simpa using hk)
        have hzT : zeroT C.P e = some (zz.cells.toList.map abs0) := by simp [zeroT, hi, hz]
        rw [hzT] at h
        unfold makeA at h
        simp only [Option.bind_some] at h
        have hl := hr l
        have hc := hr c
        split at h
        · rename_i ll cc hll hcc
          rw [hll] at hl; rw [hcc] at hc
          split at h
          · rename_i hcond
            have hcond := hcond
            obtain ⟨_, hzl, h0, hlc, hb, hb2⟩ := hcond
            injection h with h
            simp only [Prod.mk.injEq] at h
            obtain ⟨rfl, rfl⟩ := h
            have hw1 : IntKind.i64.wrap ll = ll := wrap_small (by omega) (by omega)
            have hw2 : IntKind.i64.wrap cc = cc := wrap_small (by omega) (by omega)
            have hby : bytesT C.P e = i.bytes := by simp [bytesT, hi]
            have hzs : zz.cells.size = sizeT C.P e := hz1 zz (by simp [hi, hz])
            have hcells : ∀ n : Nat, ((Array.range (n * sizeT C.P e)).map (zz.cells[· % zz.cells.size]!)).toList = (List.replicate n zz.cells.toList).flatten := fun n => by rw [← hzs]; exact repl_cells _ _ (by omega)
            obtain ⟨cs, hcs, hrun⟩ : ∃ cs : Array Value, cs.toList = (List.replicate cc.toNat zz.cells.toList).flatten ∧ (execOp ρ o).run C.P w = .ok (.value (.slice (some ⟨w.heap.size, 0, none⟩) ll.toNat cc.toNat)) (w.alloc (.cells cs e)) := by
              have hti : ∀ w, (typeInfo e).run C.P w = .ok i w := fun w => by simp [typeInfo, hi, program, Sem.run_bind, Sem.run, Result.andThen]
              have hlarge : (decide (cc < 0) || decide ((i.bytes : Int) * cc > 2 ^ 48) || decide (ll < 0) || decide (ll > cc)) = false := by
                have : (i.bytes : Int) * cc ≤ 140737488355328 := by rw [← hby, Int.mul_comm]; exact hb
                simp; omega
              have hroom : ∀ w, (askRoom (cc.toNat * i.bytes)).run C.P w = .ok () w := fun w => by
                unfold askRoom
                split <;> simp [mark, Sem.run]
              refine ⟨if cc.toNat * sizeT C.P e = 0 then #[] else (Array.range (cc.toNat * sizeT C.P e)).map (zz.cells[· % zz.cells.size]!), ?_, ?_⟩
              · split
                · rename_i h00
                  have : cc.toNat = 0 := by rcases Nat.mul_eq_zero.1 h00 with h | h; exact h; exact absurd h hsz
                  simp [this]
                · exact hcells _
              · have hrange : Array.range 0 = #[] := by apply Array.ext'; simp
                simp only [execOp, hop, Instr.makeSlice, Sem.run_bind, run_underlying hu, Result.andThen_ok, hl.int_inv, hc.int_inv, asInt, asIntOf, Sem.run_pure, hti, hw1, hw2, hlarge, Bool.false_eq_true, if_false, hroom, run_sizeOf' hsz]
                split
                · rename_i h00
                  simp [h00, newRow, newObj, Sem.run, Sem.run_bind, Result.andThen, hrange, -World.alloc_eq, World.alloc]
                · rename_i h00
                  simp [h00, newRow, newObj, Sem.run, Sem.run_bind, run_zero hi hz, Result.andThen, -World.alloc_eq, World.alloc]
            refine ⟨_, _, _, fun n => .ms n 0 0 ll.toNat cc.toNat (sizeT C.P e) true, rfl, rfl, fun H2 => ?_, hrun, ⟨by simp [World.alloc, -World.alloc_eq], hs.free_new, hs.imm_new, .inl ⟨_, cs, e, rfl, World.heap_new w _, ?_⟩⟩, fun E' n hn => .ms hn (Nat.le_refl _) (by omega) (fun _ => rfl) (fun _ => rfl)⟩
            · simp only [stepA, hu]
              rw [if_neg hk, hzT]
              simp only [makeA, Option.bind_some, hll, hcc]
              rw [if_pos hcond]
            rw [hcs]
            exact VRels.flatten_repl (zero_rel zz) _
          · cases h
        · cases h
    · cases h
  | makeMap t x =>
    have key : makeMapA H = some (z, H') → stepA C (.makeMap t x) r = makeMapA → (execOp ρ o).run C.P w = .ok (.value (.map (some w.heap.size))) (w.alloc (.map #[] 0)) → LaysTo E H C w (execOp ρ o) z H' (stepA C (.makeMap t x) r) := by
      intro h hst hrun
      rw [hst]
      simp only [makeMapA, Option.some.injEq, Prod.mk.injEq] at h
      obtain ⟨rfl, rfl⟩ := h
      exact ⟨_, _, _, fun n => .mp n, rfl, rfl, fun _ => rfl, hrun, ⟨by simp [World.alloc, -World.alloc_eq], hs.free_new, hs.imm_new, .inr ⟨rfl, 0, World.heap_new w _⟩⟩, fun E' n hn => .mp hn⟩
    simp only [hop, stepA] at h
    split at h
    · refine key h (by funext H2; simp only [stepA]) ?_
      simp [execOp, hop, Instr.makeMap, newObj, Sem.run, Sem.run_bind, Result.andThen, -World.alloc_eq, World.alloc]
    · rename_i y _ _ hu
      split at h
      · rename_i k n hy
        have hy' := hr y
        rw [hy] at hy'
        refine key h (by funext H2; simp only [stepA, hu, hy]) ?_
        simp [execOp, hop, Instr.makeMap, newObj, Sem.run, Sem.run_bind, Result.andThen, -World.alloc_eq, World.alloc, run_underlying hu, hy'.int_inv, asInt, asIntOf]
      · cases h
    · cases h
  | _ => simp [hop, stepA] at h
end
end Go.Gm
