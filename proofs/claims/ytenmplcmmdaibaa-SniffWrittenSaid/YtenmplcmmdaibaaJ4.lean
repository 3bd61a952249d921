/- Texts of this proof, joined. -/
import Derived.Test.YtenmplcmmdaibaaJ1
import Derived.Test.YtenmplcmmdaibaaJ3
/- Nodes as cells. -/
namespace Go.Gm
set_option linter.unusedVariables false
set_option linter.unusedSimpArgs false
@[simp] theorem beq_dec {a b : Int} : (a == b) = decide (a = b) := by rw [Bool.eq_iff_iff]; simp
@[simp] theorem bne_dec {a b : Int} : (a != b) = !decide (a = b) := by rw [Bool.eq_iff_iff]; simp
/-! ### Nodes -/
structure Nd where
  lv : Int
  k0 : Int
  k1 : Int
  k2 : Int
  k3 : Int
deriving DecidableEq
def Nd.kid (x : Nd) (k : Nat) : Int := match k with | 0 => x.k0 | 1 => x.k1 | 2 => x.k2 | _ => x.k3
def cNd (x : Nd) : List AVal := [.int .i64 x.lv, .int .i64 x.k0, .int .i64 x.k1, .int .i64 x.k2, .int .i64 x.k3]
instance : Sz cNd 5 := ⟨fun _ => rfl⟩
section
variable {x y : Nd} {H : AHeap} {k : Nat}
@[simp] theorem cNd_0 : (cNd x)[0]? = some (.int .i64 x.lv) := (rfl)
theorem cNd_kid (h : k < 4) : (cNd x)[1 + k]? = some (.int .i64 (x.kid k)) := by
  match k, h with
  | 0, _ => rfl
  | 1, _ => rfl
  | 2, _ => rfl
  | 3, _ => rfl
theorem idx_kid {K : IntKind} {cs : List AVal} {o : Nat} (h : k < 4) : idxArr 4 1 (.cptr cs o) (.int K (k : Int)) = some (.cptr cs (o + k * 1)) := by
  unfold idxArr
  simp only []
  rw [if_pos ⟨by omega, by omega⟩]; simp
theorem load_nd : loadA true 5 (.cptr (cNd x) 0) H = some (.agg (cNd x)) := (rfl)
theorem cNd_scal : (cNd x).all AVal.isScal = true := (rfl)
theorem acells_nd : (AVal.agg (cNd x)).acells = some (cNd x) := (rfl)
theorem cells_nd : cellsEq (cNd x) (cNd y) = some (decide (x = y)) := by
  obtain ⟨a, b, c, d, e⟩ := x
  obtain ⟨a', b', c', d', e'⟩ := y
  simp only [cNd, cellsEq, cellEq, if_true, Option.bind_some, Option.some.injEq]
  rw [Bool.eq_iff_iff]; simp
theorem eq_nd : binA (.flat 5) .eql (.agg (cNd x)) (.agg (cNd y)) = some (.bool (decide (x = y))) := by
  show (eqA (.flat 5) (.agg (cNd x)) (.agg (cNd y))).map AVal.bool = _
  have h : eqA (.flat 5) (.agg (cNd x)) (.agg (cNd y)) = some (decide (x = y)) := by unfold eqA; simp only []; rw [if_pos (show (cNd x).length = 5 from rfl), cells_nd]
  rw [h]; rfl
theorem neq_nd : binA (.flat 5) .neq (.agg (cNd x)) (.agg (cNd y)) = some (.bool (!decide (x = y))) := by
  show (eqA (.flat 5) (.agg (cNd x)) (.agg (cNd y))).map (fun b => AVal.bool (!b)) = _
  have h : eqA (.flat 5) (.agg (cNd x)) (.agg (cNd y)) = some (decide (x = y)) := by unfold eqA; simp only []; rw [if_pos (show (cNd x).length = 5 from rfl), cells_nd]
  rw [h]; rfl
end
theorem build_nd (x : Nd) : buildSl 5 [.agg (cNd x)] = some (.sl (enL cNd [x]) .tight) := by
  simp [buildSl, seqCells, acells_nd]; simp [cNd, immC, isImm, enL]
end Go.Gm
/- Rows that were made, and are written element by element. -/
namespace Go.Gm
set_option linter.unusedVariables false
set_option linter.unusedSimpArgs false
/-- Cells that stay as they are when they are handed back. -/
def plnC : AVal → Bool
  | .bool _ => true
  | .int _ _ => true
  | .str _ => true
  | .sl _ .no => true
  | .sl _ .tight => true
  | _ => false
class Pl {α : Type} (f : α → List AVal) : Prop where
  pl : ∀ a, (f a).all plnC = true
instance : Pl cB := ⟨fun _ => rfl⟩
instance : Pl cU := ⟨fun _ => rfl⟩
instance : Pl cI := ⟨fun _ => rfl⟩
instance : Pl cN := ⟨fun _ => rfl⟩
instance : Pl cY := ⟨fun _ => rfl⟩
instance : Pl cS := ⟨fun _ => rfl⟩
instance : Pl cNd := ⟨fun _ => rfl⟩
theorem plnC_scal {c : AVal} (h : plnC c = true) : c.isScal = true := by cases c <;> first | rfl | (simp [plnC] at h)
theorem plnC_immC {c : AVal} (h : plnC c = true) : immC c = c := by
  cases c <;> first | rfl | (simp [plnC] at h)
  rename_i es tk; cases tk <;> first | rfl | (simp [plnC] at h)
theorem plnC_imm {c : AVal} (h : plnC c = true) : isImm c = true := by
  cases c <;> first | rfl | (simp [plnC] at h)
  rename_i es tk; cases tk <;> first | rfl | (simp [plnC] at h)
theorem plnC_frz {c : AVal} {H : AHeap} {n d : Nat} (h : plnC c = true) : frz H n (d + 1) c = some c := by
  cases c <;> first | (simp [frz]; done) | (simp [plnC] at h)
  rename_i es tk; cases tk <;> first | (simp [frz]; done) | (simp [plnC] at h)
theorem plnC_frzL {H : AHeap} {n d : Nat} : ∀ {cs : List AVal}, cs.all plnC = true → frzL H n (d + 2) cs = some cs
  | [], _ => by simp [frzL]
  | c :: cs, h => by
    simp only [List.all_cons, Bool.and_eq_true] at h
    simp [frzL, plnC_frz h.1, plnC_frzL h.2]
section
variable {α : Type} {f : α → List AVal} {l : List α} {sz i n : Nat} {a : α} {H : AHeap} {id : Nat} {K : IntKind}
def flat (f : α → List AVal) (l : List α) : List AVal := l.flatMap f
@[simp] theorem flat_nil : flat f [] = [] := (rfl)
theorem flat_cons : flat f (a :: l) = f a ++ flat f l := by simp [flat]
theorem flat_append {m : List α} : flat f (l ++ m) = flat f l ++ flat f m := by simp [flat]
theorem flat_len [hf : Sz f sz] : ∀ (l : List α), (flat f l).length = l.length * sz
  | [] => by simp
  | a :: l => by
    have := flat_len l
    simp only [flat_cons, List.length_append, hf.len, List.length_cons, Nat.succ_mul]
    omega
theorem flat_pl [hp : Pl f] : ∀ (l : List α), (flat f l).all plnC = true
  | [] => rfl
  | a :: l => by simp only [flat_cons, List.all_append, Bool.and_eq_true]; exact ⟨hp.pl a, flat_pl l⟩
theorem flat_scal [hp : Pl f] (l : List α) : (flat f l).all AVal.isScal = true := by
  rw [List.all_eq_true]; intro c hc; exact plnC_scal (List.all_eq_true.1 (flat_pl (f := f) l) c hc)
theorem flat_immC [hp : Pl f] (l : List α) : (flat f l).map immC = flat f l := by
  have := List.map_congr_left (l := flat f l) (f := immC) (g := fun c => c) (fun c hc => plnC_immC (List.all_eq_true.1 (flat_pl (f := f) l) c hc))
  rw [this]; simp
theorem flat_imm [hp : Pl f] (l : List α) : (flat f l).all isImm = true := by
  rw [List.all_eq_true]; intro c hc; exact plnC_imm (List.all_eq_true.1 (flat_pl (f := f) l) c hc)
theorem flat_drop [hf : Sz f sz] : ∀ (l : List α) (i : Nat), (flat f l).drop (i * sz) = flat f (l.drop i)
  | [], i => by simp
  | a :: l, 0 => by simp
  | a :: l, i + 1 => by
    have := flat_drop l i
    rw [List.drop_succ_cons, ← this, flat_cons, Nat.succ_mul, Nat.add_comm, List.drop_append, hf.len, List.drop_of_length_le (by rw [hf.len]; omega), List.nil_append]
    congr 1; omega
theorem flat_take [hf : Sz f sz] : ∀ (l : List α) (i : Nat), (flat f l).take (i * sz) = flat f (l.take i)
  | [], i => by simp
  | a :: l, 0 => by simp
  | a :: l, i + 1 => by
    have := flat_take l i
    rw [List.take_succ_cons, flat_cons, flat_cons, ← this, Nat.succ_mul, Nat.add_comm, List.take_append, hf.len, List.take_of_length_le (by rw [hf.len]; omega)]
    congr 2; omega
theorem flat_at [hf : Sz f sz] (h : i < l.length) : ((flat f l).drop (i * sz)).take sz = f l[i] := by
  rw [flat_drop, List.drop_eq_getElem_cons h, flat_cons, List.take_append_of_le_length (by rw [hf.len]; omega), List.take_of_length_le (by rw [hf.len]; omega)]
theorem flat_set [hf : Sz f sz] (h : i < l.length) : putN (flat f l) (i * sz) sz (f a) = flat f (l.set i a) := by
  have e : l.set i a = l.take i ++ a :: l.drop (i + 1) := by rw [List.set_eq_take_append_cons_drop, if_pos h]
  have e2 : i * sz + sz = (i + 1) * sz := by rw [Nat.succ_mul]
  unfold putN
  rw [e, e2, flat_take, flat_drop, flat_append, flat_cons]
  simp
theorem flat_le [hf : Sz f sz] (h : i < l.length) : i * sz + sz ≤ (flat f l).length := by
  rw [flat_len, ← Nat.succ_mul]; exact Nat.mul_le_mul_right _ h
theorem idx_ms {g off cap : Nat} {ex : Bool} (h : i < n) : idxSl sz (.ms id g off n cap sz ex) (.int K (i : Int)) = some (.ptr id g (off + i * sz)) := by
  unfold idxSl
  simp only []
  rw [if_pos ⟨trivial, by omega, by omega⟩]; simp
theorem load_el [hf : Sz f 1] (hg : getCells H id 0 = some (flat f l)) (h : i < l.length) : loadA false 1 (.ptr id 0 i) H = (f l[i])[0]? := by
  have h1 := flat_at (f := f) (sz := 1) h
  have h2 := flat_le (f := f) (sz := 1) h
  simp only [Nat.mul_one] at h1 h2
  simp only [loadA, hg, Option.bind_some, Bool.false_eq_true, if_false]
  rw [← h1]; simp
theorem load_elA [hf : Sz f sz] (hg : getCells H id 0 = some (flat f l)) (h : i < l.length) : loadA true sz (.ptr id 0 (i * sz)) H = some (.agg (f l[i])) := by
  simp only [loadA, hg, Option.bind_some, if_true, flat_le h, flat_at h]
theorem store_el [hf : Sz f sz] {v : AVal} (hg : getCells H id 0 = some (flat f l)) (h : i < l.length) (hv : v.acells = some (f a)) : storeA sz (.ptr id 0 (i * sz)) v H = some (setC H id 0 (flat f (l.set i a))) := by
  simp only [storeA, hg, Option.bind_some, hv, hf.len, flat_le h, and_self, if_true, flat_set h]
theorem repl_flat : ∀ (n : Nat), repl n (f a) = flat f (List.replicate n a)
  | 0 => rfl
  | n + 1 => by
    have := repl_flat n
    simp only [repl, List.replicate_succ, List.flatten_cons, flat_cons] at this ⊢
    rw [this]
theorem make_flat [hf : Sz f sz] [hp : Pl f] {bytes : Nat} (hb : n * bytes ≤ 140737488355328) (hn : n ≤ 140737488355328) : makeA sz bytes (some (f a)) (.int .i64 (n : Int)) (.int .i64 (n : Int)) H = some (.ms H.length 0 0 n n sz true, H ++ [.cel 0 (flat f (List.replicate n a))]) := by
  have h1 : ((n : Int) * (bytes : Int)) ≤ 140737488355328 := by have : ((n * bytes : Nat) : Int) ≤ 140737488355328 := by omega
                                                                simpa using this
  have h2 : (f a).all AVal.isScal = true := by rw [List.all_eq_true]; intro c hc; exact plnC_scal (List.all_eq_true.1 (hp.pl a) c hc)
  unfold makeA
  simp only [Option.bind_some]
  rw [if_pos ⟨h2, hf.len a, by omega, by omega, h1, by omega⟩]
  simp only [Int.toNat_natCast, repl_flat]
theorem chunk_fl [hf : Sz f sz] : ∀ (l : List α), chunk sz l.length (flat f l) = enL f l
  | [] => rfl
  | a :: l => by
    have := chunk_fl l
    simp only [List.length_cons, chunk, flat_cons, enL, List.map_cons, List.take_append_of_le_length (Nat.le_of_eq (hf.len a).symm), List.take_of_length_le (Nat.le_of_eq (hf.len a)), List.drop_left' (hf.len a)]
    rw [this]; rfl
theorem fall_ms [hf : Sz f sz] [hp : Pl f] {b d cap : Nat} {ex : Bool} (hg : getCells H id 0 = some (flat f l)) (hi : b ≤ id) : fall H b (d + 3) (.ms id 0 0 l.length cap sz ex) = some (.sl (enL f l) .no) := by
  have h1 : ¬ id < b := by omega
  unfold fall
  simp only [frz, h1, if_false, hg, Option.bind_some, List.drop_zero, Nat.zero_add, flat_len, Nat.le_refl, if_true, List.take_of_length_le (Nat.le_of_eq (flat_len (f := f) l)), plnC_frzL (flat_pl (f := f) l), flat_imm (f := f) l, chunk_fl, Option.map_some, forget, fgtA, fgt]
theorem elems_flat [hf : Sz f sz] [hp : Pl f] {cap : Nat} {ex : Bool} (hg : getCells H id 0 = some (flat f l)) : elemsA sz (.ms id 0 0 l.length cap sz ex) H = some (enL f l) := by
  simp only [elemsA, if_true, hg, Option.bind_some, List.drop_zero, Nat.zero_add, flat_len, List.take_of_length_le (Nat.le_of_eq (flat_len (f := f) l)), flat_immC, flat_imm, Nat.le_refl, and_self, chunk_fl]
@[simp] theorem setC_app0 {G : AHeap} {g : Nat} {cs : List AVal} : setC (H ++ G) H.length g cs = H ++ setC G 0 g cs := setC_app (k := 0)
@[simp] theorem setC_appK {G : AHeap} {g k : Nat} {cs : List AVal} : setC (H ++ G) (H.length + k) g cs = H ++ setC G k g cs := setC_app
@[simp] theorem setC_zero {G : AHeap} {g g' : Nat} {c cs : List AVal} : setC (.cel g' c :: G) 0 g cs = .cel g cs :: G := (rfl)
@[simp] theorem setC_suc {G : AHeap} {g k : Nat} {b : Blk} {cs : List AVal} : setC (b :: G) (k + 1) g cs = b :: setC G k g cs := setC_succ
end
end Go.Gm
/- The lemmas by which a form is worked out, in one. -/
namespace Go.Gm
theorem GMb : (((((((∀ {α β : Type} (a : α) (f : α → Option β), Option.bind (Option.some a) f = f a) ∧
 (∀ (v : AVal) (l : List AVal), ag (v :: l) 0 = v)) ∧
 ((∀ (a v : AVal) (l : List AVal), ag (a :: v :: l) 1 = v) ∧
 (∀ (a b v : AVal) (l : List AVal), ag (a :: b :: v :: l) 2 = v))) ∧
 (((∀ (a b c v : AVal) (l : List AVal), ag (a :: b :: c :: v :: l) 3 = v) ∧
 (∀ (a b c d v : AVal) (l : List AVal), ag (a :: b :: c :: d :: v :: l) 4 = v)) ∧
 ((∀ (a b c d e v : AVal) (l : List AVal), ag (a :: b :: c :: d :: e :: v :: l) 5 = v) ∧
 (∀ {ek : EqK} {k : IntKind} {a b : Int}, binA ek BinOp.lss (AVal.int k a) (AVal.int k b) = Option.some (AVal.bool (Decidable.decide (a < b))))))) ∧
 ((((∀ {ek : EqK} {k : IntKind} {a b : Int}, binA ek BinOp.gtr (AVal.int k a) (AVal.int k b) = Option.some (AVal.bool (Decidable.decide (a > b)))) ∧
 (∀ {ek : EqK} {k : IntKind} {a b : Int}, binA ek BinOp.leq (AVal.int k a) (AVal.int k b) = Option.some (AVal.bool (Decidable.decide (a ≤ b))))) ∧
 ((∀ {ek : EqK} {k : IntKind} {a b : Int}, binA ek BinOp.geq (AVal.int k a) (AVal.int k b) = Option.some (AVal.bool (Decidable.decide (a ≥ b)))) ∧
 (∀ {ek : EqK} {k : IntKind} {a b : Int}, binA ek BinOp.eql (AVal.int k a) (AVal.int k b) = Option.some (AVal.bool (a == b))))) ∧
 (((∀ {ek : EqK} {k : IntKind} {a b : Int}, binA ek BinOp.neq (AVal.int k a) (AVal.int k b) = Option.some (AVal.bool (a != b))) ∧
 (∀ {ek : EqK} {k : IntKind} {a b : Int}, binA ek BinOp.add (AVal.int k a) (AVal.int k b) = Option.some (AVal.int k (IntKind.wrap k (a + b))))) ∧
 ((∀ {ek : EqK} {k : IntKind} {a b : Int}, binA ek BinOp.sub (AVal.int k a) (AVal.int k b) = Option.some (AVal.int k (IntKind.wrap k (a - b)))) ∧
 ((∀ {ek : EqK} {k : IntKind} {a b : Int}, binA ek BinOp.mul (AVal.int k a) (AVal.int k b) = Option.some (AVal.int k (IntKind.wrap k (a * b)))) ∧
 (∀ (a b : Out), condA (AVal.bool Bool.true) a b = a)))))) ∧
 (((((∀ (a b : Out), condA (AVal.bool Bool.false) a b = b) ∧
 (∀ (a b : AVal), condV (AVal.bool Bool.true) a b = Option.some a)) ∧
 ((∀ (a b : AVal), condV (AVal.bool Bool.false) a b = Option.some b) ∧
 (∀ {kv : AVal → Out} (x : Option AVal), gk (AVal.bool Bool.true) Bool.true x kv = Option.bind x kv))) ∧
 (((∀ {kv : AVal → Out} (x : Option AVal), gk (AVal.bool Bool.false) Bool.false x kv = Option.bind x kv) ∧
 (∀ {kv : AVal → Out} (x : Option AVal), gk (AVal.bool Bool.true) Bool.false x kv = kv skipV)) ∧
 ((∀ {kv : AVal → Out} (x : Option AVal), gk (AVal.bool Bool.false) Bool.true x kv = kv skipV) ∧
 ((∀ {kv : AVal → Out} (w : Bool) (x : Option AVal), gk (AVal.tup []) w x kv = kv skipV) ∧
 (∀ {x : Option AVal} {p : Bool → AVal → Prop} {k : AVal → Out}, gkc (AVal.bool Bool.true) Bool.true x p k = bC x (p Bool.true) k))))) ∧
 ((((∀ {x : Option AVal} {p : Bool → AVal → Prop} {k : AVal → Out}, gkc (AVal.bool Bool.false) Bool.false x p k = bC x (p Bool.true) k) ∧
 (∀ {x : Option AVal} {p : Bool → AVal → Prop} {k : AVal → Out}, gkc (AVal.bool Bool.true) Bool.false x p k = chk (p Bool.false skipV) (k skipV))) ∧
 ((∀ {x : Option AVal} {p : Bool → AVal → Prop} {k : AVal → Out}, gkc (AVal.bool Bool.false) Bool.true x p k = chk (p Bool.false skipV) (k skipV)) ∧
 (∀ {x : Option AVal} {p : Bool → AVal → Prop} {k : AVal → Out} {w : Bool}, gkc (AVal.tup []) w x p k = chk (p Bool.false skipV) (k skipV)))) ∧
 (((∀ {v : AVal} {p : AVal → Prop} {k : AVal → Out}, bC (Option.some v) p k = chk (p v) (k v)) ∧
 (∀ {x : Out}, chk True x = x)) ∧
 ((∀ {H0 H : AHeap} {k : AVal → AHeap → Out} (x : Out), gbK H0 (AVal.bool Bool.true) Bool.true H x k = bK H0 x k) ∧
 ((∀ {H0 H : AHeap} {k : AVal → AHeap → Out} (x : Out), gbK H0 (AVal.bool Bool.false) Bool.false H x k = bK H0 x k) ∧
 (∀ {H0 H : AHeap} {k : AVal → AHeap → Out} (x : Out), gbK H0 (AVal.bool Bool.true) Bool.false H x k = k skipV H))))))) ∧
 ((((((∀ {H0 H : AHeap} {k : AVal → AHeap → Out} (x : Out), gbK H0 (AVal.bool Bool.false) Bool.true H x k = k skipV H) ∧
 (∀ {H0 H : AHeap} {k : AVal → AHeap → Out} (w : Bool) (x : Out), gbK H0 (AVal.tup []) w H x k = k skipV H)) ∧
 ((∀ {H0 H : AHeap} {k : AVal → AHeap → Out} (x : Out), gbP H0 (AVal.bool Bool.true) Bool.true H x k = bP H0 x k) ∧
 (∀ {H0 H : AHeap} {k : AVal → AHeap → Out} (x : Out), gbP H0 (AVal.bool Bool.false) Bool.false H x k = bP H0 x k))) ∧
 (((∀ {H0 H : AHeap} {k : AVal → AHeap → Out} (x : Out), gbP H0 (AVal.bool Bool.true) Bool.false H x k = k skipV H) ∧
 (∀ {H0 H : AHeap} {k : AVal → AHeap → Out} (x : Out), gbP H0 (AVal.bool Bool.false) Bool.true H x k = k skipV H)) ∧
 ((∀ {H0 H : AHeap} {k : AVal → AHeap → Out} (w : Bool) (x : Out), gbP H0 (AVal.tup []) w H x k = k skipV H) ∧
 (∀ {H : AHeap} {k : AVal → AHeap → Out} (x : Out), gbN (AVal.bool Bool.true) Bool.true H x k = bindN x k)))) ∧
 ((((∀ {H : AHeap} {k : AVal → AHeap → Out} (x : Out), gbN (AVal.bool Bool.false) Bool.false H x k = bindN x k) ∧
 (∀ {H : AHeap} {k : AVal → AHeap → Out} (x : Out), gbN (AVal.bool Bool.true) Bool.false H x k = k skipV H)) ∧
 ((∀ {H : AHeap} {k : AVal → AHeap → Out} (x : Out), gbN (AVal.bool Bool.false) Bool.true H x k = k skipV H) ∧
 (∀ {H : AHeap} {k : AVal → AHeap → Out} (w : Bool) (x : Out), gbN (AVal.tup []) w H x k = k skipV H))) ∧
 (((∀ {H : AHeap} {k : AVal → AHeap → Out} (v : AVal), bindN (Option.some (Res.ret v, H)) k = k v H) ∧
 (∀ {H0 H : AHeap} {k : AVal → AHeap → Out} (v : AVal), bK H0 (Option.some (Res.ret v, H)) k = k v H)) ∧
 ((∀ {H0 H : AHeap} {k : AVal → AHeap → Out} (v : AVal), bP H0 (Option.some (Res.ret v, H)) k = k v H) ∧
 ((∀ {H0 H : AHeap} (v : AVal), rK H0 v H = Option.some (Res.ret v, H)) ∧
 (∀ {H H0 : AHeap} {v : AVal}, rKN H0 v H = Option.some (Res.ret (forget v), H))))))) ∧
 (((((∀ {c : Bool}, unA UnOp.not (AVal.bool c) = Option.some (AVal.bool !c)) ∧
 (∀ {H : AHeap} (v : AVal), retV (Option.some v) H = Option.some (Res.ret v, H))) ∧
 ((∀ {H : AHeap}, retH (Option.some H) = Option.some (Res.ret AVal.undef, H)) ∧
 (∀ {H : AHeap} (v : AVal), retVH (Option.some (v, H)) = Option.some (Res.ret v, H)))) ∧
 (((∀ {H : AHeap} {k : AVal → AHeap → Out} (v : AVal), afterA (Option.some (v, H)) k = k v H) ∧
 (∀ {a b : Int}, (a == b) = decide (a = b))) ∧
 ((∀ {a b : Int}, (a != b) = !decide (a = b)) ∧
 (((!true) = false) ∧
 ((!false) = true))))) ∧
 (((((false = true) = False) ∧
 (∀ (b : Bool), (false || b) = b)) ∧
 ((∀ (b : Bool), (true || b) = true) ∧
 (∀ (b : Bool), (b || false) = b))) ∧
 (((∀ (b : Bool), (b || true) = true) ∧
 (∀ (b : Bool), (b && true) = b)) ∧
 ((∀ (b : Bool), (true && b) = b) ∧
 ((∀ (b : Bool), (b && false) = false) ∧
 (∀ (b : Bool), (false && b) = false)))))))) :=
 ⟨⟨⟨⟨⟨⟨@obind, @ag_zero⟩, ⟨@ag_1, @ag_2⟩⟩, ⟨⟨@ag_3, @ag_4⟩, ⟨@ag_5, @bin_lss⟩⟩⟩, ⟨⟨⟨@bin_gtr, @bin_leq⟩, ⟨@bin_geq, @bin_eql⟩⟩, ⟨⟨@bin_neq, @bin_add⟩, ⟨@bin_sub, ⟨@bin_mul, @condA_true⟩⟩⟩⟩⟩, ⟨⟨⟨⟨@condA_false, @condV_true⟩, ⟨@condV_false, @gk_tt⟩⟩, ⟨⟨@gk_ff, @gk_tf⟩, ⟨@gk_ft, ⟨@gk_s, @gkc_tt⟩⟩⟩⟩, ⟨⟨⟨@gkc_ff, @gkc_tf⟩, ⟨@gkc_ft, @gkc_s⟩⟩, ⟨⟨@bC_chk, @chk_true⟩, ⟨@gbK_tt, ⟨@gbK_ff, @gbK_tf⟩⟩⟩⟩⟩⟩, ⟨⟨⟨⟨⟨@gbK_ft, @gbK_s⟩, ⟨@gbP_tt, @gbP_ff⟩⟩, ⟨⟨@gbP_tf, @gbP_ft⟩, ⟨@gbP_s, @gbN_tt⟩⟩⟩, ⟨⟨⟨@gbN_ff, @gbN_tf⟩, ⟨@gbN_ft, @gbN_s⟩⟩, ⟨⟨@bindN_ret, @bK_ret⟩, ⟨@bP_ret, ⟨@rK_eq, @rKN_eq⟩⟩⟩⟩⟩, ⟨⟨⟨⟨@un_not, @retV_some⟩, ⟨@retH_some, @retVH_some⟩⟩, ⟨⟨@afterA_some, @beq_dec⟩, ⟨@bne_dec, ⟨Bool.not_true, Bool.not_false⟩⟩⟩⟩, ⟨⟨⟨@Bool.false_eq_true, @Bool.false_or⟩, ⟨@Bool.true_or, @Bool.or_false⟩⟩, ⟨⟨@Bool.or_true, @Bool.and_true⟩, ⟨@Bool.true_and, ⟨@Bool.and_false, @Bool.false_and⟩⟩⟩⟩⟩⟩⟩
end Go.Gm
/- Chapter 5 of the document: nodes. -/
namespace Go.Gm
set_option linter.unusedVariables false
set_option linter.unusedSimpArgs false
/-- May the i-th node of a list have a kid? -/
def kidOk (L : List Nd) (i : Nat) (x : Nd) (c : Int) : Bool :=
  decide (0 ≤ c) && (decide (x.lv = 1 → c ≤ 255)) && decide (1 < x.lv → 0 < c → c ≤ i ∧ ∀ y, L[(c - 1).toNat]? = some y → y.lv = x.lv - 1)
def ndOk (L : List Nd) (i : Nat) : Bool :=
  match L[i]? with
  | some x => decide (1 ≤ x.lv ∧ x.lv ≤ 1329) && (List.range 4).all fun k => kidOk L i x (x.kid k)
  | none => true
def looseB (L : List Nd) : Bool := (List.range L.length).all (ndOk L)
theorem q05_loose (L : List Nd) (tk : Tok) (H : AHeap) (hL : L.length < 1152921504606846976) : Sh.gliderref05_Loose (.sl (enL cNd L) tk) H = some (.ret (.bool (looseB L)), H) := by
  unfold Sh.gliderref05_Loose
  rw [show looseB L = (List.range L.length).all (ndOk L) from rfl]
  have := loop_all L.length (ndOk L) (fun i => [.sl (enL cNd L) tk, .int .i64 (i : Int)]) H (some (.ret (.bool true), H)) (some (.ret (.bool false), H)) hL (fun rec i hi => ?_) (fun rec => ?_)
    (G := fun rec1 vs H1 => Sh.gliderref05_Loose_l1 H rec1 (ag vs 0) (ag vs 1) H1)
  · refine this.trans ?_
    cases (List.range L.length).all (ndOk L) <;> rfl
  · have hx : (i : Int) < (L.length : Int) := by omega
    have hg : L[i]? = some L[i] := List.getElem?_eq_getElem hi
    unfold Sh.gliderref05_Loose_l1
    simp only [ag_zero, ag_1, len_enL, obind, bin_lss, hx, decide_true, condA_true, idx_enL hi, fieldAddr_cptr, load_cptr, Nat.add_zero, cNd_0]
    by_cases h1 : L[i].lv < 1
    · have : ndOk L i = false := by simp only [ndOk, hg]; simp; intro; omega
      simp [h1, this]
    · by_cases h2 : L[i].lv > 1329
      · have : ndOk L i = false := by simp only [ndOk, hg]; simp; intro; omega
        simp [h1, h2, this, idx_enL hi]
      · have hd : ndOk L i = (List.range 4).all fun k => kidOk L i L[i] (L[i].kid k) := by
          simp only [ndOk, hg]; rw [decide_eq_true (by omega)]; rfl
        simp only [h1, h2, decide_false, gk_ff, obind, bin_gtr, condV_false, condA_false, hd, load_cptr, Nat.add_zero, cNd_0, fieldAddr_cptr, idx_enL hi]
        have := loop_all 4 (fun k => kidOk L i L[i] (L[i].kid k)) (fun k => [.sl (enL cNd L) tk, .int .i64 (i : Int), .int .i64 (k : Int)]) H (rec [.sl (enL cNd L) tk, .int .i64 ((i + 1 : Nat) : Int)] H) (some (.ret (.bool false), H)) (by decide) (fun rec2 k hk => ?_) (fun rec2 => ?_)
          (G := fun rec2 vs H1 => Sh.gliderref05_Loose_l2 H rec rec2 (ag vs 0) (ag vs 1) (ag vs 2) H1)
        · exact this
        · have hk' : (k : Int) < 4 := by omega
          unfold Sh.gliderref05_Loose_l2
          simp only [ag_zero, ag_1, ag_2, obind, bin_lss, hk', decide_true, condA_true, idx_enL hi, fieldAddr_cptr, idx_kid hk, load_cptr, Nat.zero_add, Nat.mul_one, cNd_kid hk, cNd_0, wrap_succ (show k < 9223372036854775807 by omega), bin_add, bin_eql, bin_gtr]
          generalize L[i].kid k = c
          generalize hx' : L[i] = x at h1 h2 ⊢
          by_cases hc : c < 0
          · have : kidOk L i x c = false := by simp [kidOk]; omega
            simp [hc, this, idx_enL hi, hx']
          · obtain ⟨n, rfl⟩ := Int.eq_ofNat_of_zero_le (show 0 ≤ c by omega)
            by_cases hl : x.lv = 1
            · by_cases h255 : 255 < n
              · have : kidOk L i x n = false := by simp [kidOk, hl]; omega
                have h256 : (255 : Int) < n := by omega
                simp [hc, hl, h255, h256, this, idx_enL hi, hx']
              · have : kidOk L i x n = true := by simp [kidOk, hl]; omega
                have h256 : ¬ (255 : Int) < n := by omega
                simp [hc, hl, h255, h256, this, idx_enL hi, hx']
            · have hl1 : 1 < x.lv := by omega
              by_cases hn : 0 < n
              · by_cases hni : i < n
                · have : kidOk L i x n = false := by
                    unfold kidOk
                    rw [Bool.and_eq_false_iff]; right
                    rw [decide_eq_false_iff_not]; intro h; have := (h hl1 (by omega)).1; omega
                  simp [hc, hl, hl1, hn, hni, this, idx_enL hi, hx']
                · have hlt : n - 1 < L.length := by omega
                  have e1 : ((n : Int) - 1).toNat = n - 1 := by omega
                  have hk2 : kidOk L i x n = decide (L[n - 1].lv = x.lv - 1) := by
                    unfold kidOk
                    rw [e1, List.getElem?_eq_getElem hlt, Bool.eq_iff_iff]
                    simp only [Bool.and_eq_true, decide_eq_true_eq, Option.some.injEq, forall_eq']
                    constructor
                    · intro h; exact (h.2 hl1 (by omega)).2
                    · intro h; exact ⟨⟨by omega, by omega⟩, fun _ _ => ⟨by omega, h⟩⟩
                  have hw : IntKind.i64.wrap (x.lv - 1) = x.lv - 1 := wrap_i64 (by omega) (by omega)
                  simp [hc, hl, hl1, hn, hni, hk2, wrap_pred (show 0 < n by omega) (by omega), idx_enL hlt, idx_enL hi, hx', hw]
                  by_cases he : L[n - 1].lv = x.lv - 1 <;> simp [he]
              · have : kidOk L i x n = true := by
                  unfold kidOk
                  simp only [Bool.and_eq_true, decide_eq_true_eq]
                  exact ⟨⟨by omega, by omega⟩, fun _ _ => by omega⟩
                simp [hc, hl, hl1, hn, this, idx_enL hi, hx']
        · unfold Sh.gliderref05_Loose_l2
          simp [wrap_succ (show i < 9223372036854775807 by omega)]
  · unfold Sh.gliderref05_Loose_l1
    simp
end Go.Gm
/- Numbers in limbs and bits: plain mathematics. -/
namespace Go.Gm
set_option linter.unusedVariables false
set_option linter.unusedSimpArgs false
/-- Without falses at the end. -/
def cutL (l : List Bool) : List Bool := (l.reverse.dropWhile fun b => !b).reverse
theorem cutL_nil : cutL [] = [] := rfl
theorem cutL_true (l : List Bool) : cutL (l ++ [true]) = l ++ [true] := by simp [cutL]
theorem cutL_false (l : List Bool) : cutL (l ++ [false]) = cutL l := by simp [cutL]
theorem snoc_cases {α : Type} (l : List α) : l = [] ∨ ∃ l' a, l = l' ++ [a] := by
  cases h : l.reverse with
  | nil => left; simpa using h
  | cons a r => right; exact ⟨r.reverse, a, by have := congrArg List.reverse h; simpa using this⟩
/-- So many bits of a number, the lowest one first. -/
def bitsOf : Nat → Nat → List Bool
  | 0, _ => []
  | n + 1, x => (x % 2 == 1) :: bitsOf n (x / 2)
theorem bitsOf_length : ∀ (n x : Nat), (bitsOf n x).length = n
  | 0, _ => rfl
  | n + 1, x => by simp [bitsOf, bitsOf_length n]
def bitsAll (l : List Nat) : List Bool := l.flatMap (bitsOf 32)
theorem bitsAll_length (l : List Nat) : (bitsAll l).length = 32 * l.length := by
  induction l with
  | nil => rfl
  | cons a l ih => simp only [bitsAll, List.flatMap_cons, List.length_append, bitsOf_length, List.length_cons] at ih ⊢; omega
/-- The number of bits. -/
def nat1 : List Bool → Nat
  | [] => 0
  | b :: l => (if b then 1 else 0) + 2 * nat1 l
theorem nat1_append (l m : List Bool) : nat1 (l ++ m) = nat1 l + 2 ^ l.length * nat1 m := by
  induction l with
  | nil => simp [nat1]
  | cons b l ih =>
    simp only [List.cons_append, nat1, ih, List.length_cons, Nat.pow_succ]
    rw [Nat.mul_add, ← Nat.add_assoc, Nat.mul_comm (2 ^ l.length) 2, Nat.mul_assoc]
theorem nat1_lt (l : List Bool) : nat1 l < 2 ^ l.length := by
  induction l with
  | nil => simp [nat1]
  | cons b l ih => simp only [nat1, List.length_cons, Nat.pow_succ]; split <;> omega
/-- The limb at the q-th place. -/
def limbAt (c : List Bool) (q : Nat) : Nat := nat1 ((c.drop (32 * q)).take 32)
def limbsTo (c : List Bool) (q : Nat) : List Nat := (List.range q).map (limbAt c)
theorem limbsTo_succ (c : List Bool) (q : Nat) : limbsTo c (q + 1) = limbsTo c q ++ [limbAt c q] := by simp [limbsTo, List.range_succ]
theorem limbsTo_length (c : List Bool) (q : Nat) : (limbsTo c q).length = q := by simp [limbsTo]
/-- The limbs of bits that end with a true one. -/
def limbsOf (l : List Bool) : List Nat := limbsTo (cutL l) (((cutL l).length + 31) / 32)
theorem cutL_le (l : List Bool) : (cutL l).length ≤ l.length := by
  unfold cutL
  rw [List.length_reverse]
  have := (List.dropWhile_sublist (p := fun b => !b) (l := l.reverse)).length_le
  simpa using this
/-- The number of limbs. -/
def val : List Nat → Nat
  | [] => 0
  | a :: l => a + 4294967296 * val l
/-- The one way to write a number in limbs. -/
structure Nrm (l : List Nat) : Prop where
  lt : ∀ x ∈ l, x < 4294967296
  last : ∀ x, l.getLast? = some x → x ≠ 0
theorem val_append (l m : List Nat) : val (l ++ m) = val l + 4294967296 ^ l.length * val m := by
  induction l with
  | nil => simp [val]
  | cons b l ih =>
    simp only [List.cons_append, val, ih, List.length_cons, Nat.pow_succ]
    rw [Nat.mul_add, ← Nat.add_assoc, Nat.mul_comm (4294967296 ^ l.length) 4294967296, Nat.mul_assoc]
theorem Nrm.tail {a : Nat} {l : List Nat} (h : Nrm (a :: l)) : Nrm l :=
  ⟨fun x hx => h.lt x (by simp [hx]), fun x hx => h.last x (by cases l with | nil => simp at hx | cons b l => simpa [List.getLast?_cons_cons] using hx)⟩
theorem Nrm.zero : ∀ {l : List Nat}, Nrm l → val l = 0 → l = []
  | [], _, _ => rfl
  | a :: l, h, hv => by
    exfalso
    simp only [val] at hv
    have h1 : a = 0 := by omega
    have h2 : l = [] := h.tail.zero (by omega)
    subst h2
    exact h.last a (by simp) h1
theorem Nrm.inj : ∀ {l m : List Nat}, Nrm l → Nrm m → val l = val m → l = m
  | [], m, _, hm, h => (hm.zero (by simpa [val] using h.symm)).symm
  | a :: l, [], hl, _, h => hl.zero (by simpa [val] using h)
  | a :: l, b :: m, hl, hm, h => by
    have h1 := hl.lt a (by simp)
    have h2 := hm.lt b (by simp)
    simp only [val] at h
    have e1 : a = b := by omega
    have e2 : val l = val m := by omega
    rw [e1, Nrm.inj hl.tail hm.tail e2]
theorem val_bits (l : List Nat) (hx : ∀ x ∈ l, x < 4294967296) : nat1 (bitsAll l) = val l := by
  have key : ∀ (n x : Nat), nat1 (bitsOf n x) = x % 2 ^ n := by
    intro n
    induction n with
    | zero => intro x; simp [bitsOf, nat1, Nat.mod_one]
    | succ n ih =>
      intro x
      simp only [bitsOf, nat1, ih]
      rw [Nat.pow_succ, Nat.mul_comm (2 ^ n) 2, Nat.mod_mul]
      congr 1
      have : x % 2 < 2 := Nat.mod_lt _ (by omega)
      split
      · rename_i h; have := of_decide_eq_true (p := x % 2 = 1) (by simpa using h); omega
      · rename_i h; have : ¬ x % 2 = 1 := by simpa using h
        omega
  induction l with
  | nil => rfl
  | cons a l ih =>
    have e : bitsAll (a :: l) = bitsOf 32 a ++ bitsAll l := rfl
    rw [e, nat1_append, key, bitsOf_length, ih fun x h => hx x (by simp [h])]
    have := hx a (by simp)
    simp only [val]
    rw [Nat.mod_eq_of_lt (by omega)]
theorem nat1_cut (l : List Bool) : nat1 (cutL l) = nat1 l := by
  suffices h : ∀ r : List Bool, nat1 (cutL r.reverse) = nat1 r.reverse by have := h l.reverse; simpa using this
  intro r
  induction r with
  | nil => rfl
  | cons b r ih =>
    rw [List.reverse_cons]
    cases b with
    | true => rw [cutL_true]
    | false => rw [cutL_false, ih, nat1_append]; simp [nat1]
theorem limbAt_lt (c : List Bool) (q : Nat) : limbAt c q < 4294967296 := by
  have h := nat1_lt ((c.drop (32 * q)).take 32)
  have h2 : ((c.drop (32 * q)).take 32).length ≤ 32 := by simp; omega
  have : 2 ^ ((c.drop (32 * q)).take 32).length ≤ 2 ^ 32 := Nat.pow_le_pow_right (by omega) h2
  unfold limbAt
  omega
theorem val_limbsTo (c : List Bool) : ∀ q, val (limbsTo c q) = nat1 (c.take (32 * q))
  | 0 => by simp [limbsTo, val, nat1]
  | q + 1 => by
    rw [limbsTo_succ, val_append, val_limbsTo c q, limbsTo_length]
    have e : c.take (32 * (q + 1)) = c.take (32 * q) ++ (c.drop (32 * q)).take 32 := by rw [Nat.mul_add, List.take_add]
    rw [e, nat1_append]
    by_cases h : 32 * q ≤ c.length
    · have : (c.take (32 * q)).length = 32 * q := by simp; omega
      rw [this, show (4294967296 : Nat) = 2 ^ 32 from rfl, ← Nat.pow_mul]
      simp [val, limbAt]
    · have : c.drop (32 * q) = [] := List.drop_of_length_le (by omega)
      simp [val, limbAt, this, nat1]
theorem cutL_end (l : List Bool) : cutL l = [] ∨ ∃ m, cutL l = m ++ [true] := by
  suffices h : ∀ r : List Bool, cutL r.reverse = [] ∨ ∃ m, cutL r.reverse = m ++ [true] by have := h l.reverse; simpa using this
  intro r
  induction r with
  | nil => exact .inl rfl
  | cons b r ih =>
    rw [List.reverse_cons]
    cases b with
    | true => rw [cutL_true]; exact .inr ⟨_, rfl⟩
    | false => rw [cutL_false]; exact ih
theorem val_limbsOf (l : List Bool) : val (limbsOf l) = nat1 l := by
  unfold limbsOf
  rw [val_limbsTo, List.take_of_length_le (by omega), nat1_cut]
theorem nrm_limbsOf (l : List Bool) : Nrm (limbsOf l) := by
  unfold limbsOf
  refine ⟨fun x hx => ?_, fun x hx => ?_⟩
  · simp only [limbsTo, List.mem_map] at hx
    obtain ⟨q, _, rfl⟩ := hx
    exact limbAt_lt _ _
  · rcases cutL_end l with h | ⟨m, h⟩
    · rw [h] at hx; simp [limbsTo] at hx
    · obtain ⟨Q, hQ⟩ : ∃ Q, ((cutL l).length + 31) / 32 = Q + 1 := ⟨((cutL l).length + 31) / 32 - 1, by rw [h]; simp; omega⟩
      have hlen : (cutL l).length = m.length + 1 := by rw [h]; simp
      rw [hQ, limbsTo_succ] at hx
      simp at hx
      subst hx
      unfold limbAt
      rw [List.take_of_length_le (by simp; omega), h, List.drop_append_of_le_length (by omega), nat1_append]
      have : 0 < 2 ^ (m.drop (32 * Q)).length := Nat.two_pow_pos _
      simp [nat1]
/-- The limbs of a number. -/
def lims (n : Nat) : List Nat := limbsOf (bitsOf n n)
theorem lt_two_pow_self' (n : Nat) : n < 2 ^ n := Nat.lt_two_pow_self
theorem nat1_bitsOf (n x : Nat) : nat1 (bitsOf n x) = x % 2 ^ n := by
  induction n generalizing x with
  | zero => simp [bitsOf, nat1, Nat.mod_one]
  | succ n ih =>
    simp only [bitsOf, nat1, ih]
    rw [Nat.pow_succ, Nat.mul_comm (2 ^ n) 2, Nat.mod_mul]
    congr 1
    split
    · rename_i h; have := of_decide_eq_true (p := x % 2 = 1) (by simpa using h); omega
    · rename_i h; have : ¬ x % 2 = 1 := by simpa using h
      omega
theorem val_lims (n : Nat) : val (lims n) = n := by
  unfold lims
  rw [val_limbsOf, nat1_bitsOf, Nat.mod_eq_of_lt (lt_two_pow_self' n)]
theorem nrm_lims (n : Nat) : Nrm (lims n) := nrm_limbsOf _
theorem lims_val {l : List Nat} (h : Nrm l) : l = lims (val l) := h.inj (nrm_lims _) (val_lims _).symm
theorem limbsOf_eq (l : List Bool) : limbsOf l = lims (nat1 l) := by rw [lims_val (nrm_limbsOf l), val_limbsOf]
/-- Limbs as they come from outside. -/
theorem pow2_le {v w : Nat} (h : v ≤ w) : 2 ^ v ≤ 2 ^ w := Nat.pow_le_pow_right (by omega) h
theorem pow32_lt {m k : Nat} (h : m < 32 * k) : 2 ^ m < 4294967296 ^ k := by
  rw [show (4294967296 : Nat) = 2 ^ 32 from rfl, ← Nat.pow_mul]
  exact Nat.pow_lt_pow_right (by omega) h
theorem pow32_le {m k : Nat} (h : m ≤ 32 * k) : 2 ^ m ≤ 4294967296 ^ k := by
  rw [show (4294967296 : Nat) = 2 ^ 32 from rfl, ← Nat.pow_mul]
  exact Nat.pow_le_pow_right (by omega) h
theorem pow4_le {v w : Nat} (h : v ≤ w) : (4 : Int) ^ v ≤ ((2 ^ (2 * w) : Nat) : Int) := by
  have h1 : 4 ^ v ≤ 2 ^ (2 * w) := by rw [Nat.pow_mul]; exact Nat.pow_le_pow_right (by omega) h
  exact_mod_cast h1
theorem pow10_le {k m : Nat} (h : 10 * k ≤ m) : 4294967296 ^ k ≤ 10 ^ m := by
  refine Nat.le_trans (Nat.pow_le_pow_left (show 4294967296 ≤ 10 ^ 10 by decide) k) ?_
  rw [← Nat.pow_mul]
  exact Nat.pow_le_pow_right (by omega) h
def Lim (l : List Nat) : Prop := ∀ x ∈ l, x < 4294967296
def rightB (l : List Nat) : Bool :=
  match l.getLast? with
  | none => true
  | some x => x != 0
theorem rightB_iff {l : List Nat} (hx : Lim l) : rightB l = true ↔ Nrm l := by
  unfold rightB
  constructor
  · intro h
    refine ⟨hx, fun x hxl => ?_⟩
    rw [hxl] at h
    simpa using h
  · intro h
    cases hl : l.getLast? with
    | none => rfl
    | some x => have := h.last x hl; simpa using this
/-- Below, as, above. -/
def cmpI (a b : Nat) : Int := if a < b then -1 else if b < a then 1 else 0
theorem bit_cut (c : List Bool) (i : Nat) : (cutL c).getD i false = c.getD i false := by
  suffices h : ∀ r : List Bool, (cutL r.reverse).getD i false = r.reverse.getD i false by have := h c.reverse; simpa using this
  intro r
  induction r with
  | nil => rfl
  | cons b r ih =>
    rw [List.reverse_cons]
    cases b with
    | true => rw [cutL_true]
    | false =>
      rw [cutL_false, ih]
      simp only [List.getD_eq_getElem?_getD, List.getElem?_append]
      split
      · rfl
      · rename_i h
        rw [List.getElem?_eq_none (by omega)]
        cases hx : i - r.reverse.length with
        | zero => rfl
        | succ k => rfl
theorem nat1_bit (c : List Bool) (i : Nat) : c.getD i false = (nat1 c).testBit i := by
  induction c generalizing i with
  | nil => simp [nat1]
  | cons b c ih =>
    cases i with
    | zero => simp only [nat1, List.getD_cons_zero, Nat.testBit_zero]; cases b <;> simp <;> omega
    | succ i =>
      simp only [nat1, List.getD_cons_succ, ih, Nat.testBit_succ]
      congr 1
      cases b <;> simp <;> omega
def bn (b : Bool) : Nat := if b then 1 else 0
/-- A bit of a difference: its value, and what is borrowed. -/
def subN (p q c : Bool) : Int := (if p then 1 else 0) - (if q then 1 else 0) - (if c then 1 else 0)
def subS (p q c : Bool) : Bool := (p != q) != c
def subC (p q c : Bool) : Bool := decide (subN p q c < 0)
/-- The sign that a number may have. -/
def sgn (neg : Bool) (n : Nat) : Bool := neg && decide (n ≠ 0)
theorem lims_zero : lims 0 = [] := (nrm_lims 0).zero (val_lims 0)
theorem lims_ne {n : Nat} (h : n ≠ 0) : lims n ≠ [] := fun e => h (by have := val_lims n; rw [e] at this; simpa [val] using this.symm)
def bigI (neg : Bool) (l : List Nat) : Int := if neg then -(val l : Int) else val l
theorem lim_lims (n : Nat) : Lim (lims n) := (nrm_lims n).lt
theorem lims_len {n k : Nat} (h : n < 4294967296 ^ k) : (lims n).length ≤ k := by
  rcases Nat.lt_or_ge k (lims n).length with h1 | h1
  · exfalso
    rcases snoc_cases (lims n) with e | ⟨m, a, e⟩
    · rw [e] at h1; simp at h1
    · have hv := val_lims n
      rw [e, val_append] at hv
      have ha : a ≠ 0 := (nrm_lims n).last a (by rw [e]; simp)
      rw [e] at h1
      have hk : k ≤ m.length := by simp at h1; omega
      have : 4294967296 ^ k ≤ 4294967296 ^ m.length := Nat.pow_le_pow_right (by omega) hk
      have h2 : 4294967296 ^ m.length * 1 ≤ 4294967296 ^ m.length * val [a] := Nat.mul_le_mul_left _ (by simp [val]; omega)
      omega
  · exact h1
theorem val_lt (l : List Nat) (hx : Lim l) : val l < 4294967296 ^ l.length := by
  induction l with
  | nil => simp [val]
  | cons a l ih =>
    have h1 := ih fun x h => hx x (by simp [h])
    have h2 := hx a (by simp)
    simp only [val, List.length_cons, Nat.pow_succ]
    omega
theorem cutL_nat0 {l : List Bool} (h : nat1 l = 0) : cutL l = [] := by
  rcases cutL_end l with e | ⟨m, e⟩
  · exact e
  · exfalso
    have := nat1_cut l
    rw [e, nat1_append, h] at this
    have : 0 < 2 ^ m.length := Nat.two_pow_pos _
    simp [nat1] at *
theorem nat1_repl (n : Nat) (b : List Bool) : nat1 (List.replicate n false ++ b) = 2 ^ n * nat1 b := by
  have e : nat1 (List.replicate n false) = 0 := by
    induction n with
    | zero => rfl
    | succ n ih => simp [List.replicate_succ, nat1, ih]
  rw [nat1_append, e, List.length_replicate]; simp
theorem pow_le32 {i j : Nat} (h : i ≤ j) : (4294967296 : Nat) ^ i ≤ 4294967296 ^ j := Nat.pow_le_pow_right (by omega) h
end Go.Gm
/- Chapter 5 of the document: which nodes are empty. -/
namespace Go.Gm
set_option linter.unusedVariables false
set_option linter.unusedSimpArgs false
theorem loose_get {L : List Nd} (h : looseB L = true) {i : Nat} (hi : i < L.length) : 1 ≤ L[i].lv ∧ L[i].lv ≤ 1329 ∧ ∀ k, k < 4 → 0 ≤ L[i].kid k ∧ (L[i].lv = 1 → L[i].kid k ≤ 255) ∧ (1 < L[i].lv → 0 < L[i].kid k → L[i].kid k ≤ i ∧ ∀ y, L[(L[i].kid k - 1).toNat]? = some y → y.lv = L[i].lv - 1) := by
  have h1 := List.all_eq_true.1 h i (by simpa using hi)
  simp only [ndOk, List.getElem?_eq_getElem hi, Bool.and_eq_true, decide_eq_true_eq, List.all_eq_true] at h1
  refine ⟨h1.1.1, h1.1.2, fun k hk => ?_⟩
  have h2 := h1.2 k (by simpa using hk)
  simp only [kidOk, Bool.and_eq_true, decide_eq_true_eq] at h2
  exact ⟨h2.1.1, h2.1.2, h2.2⟩
/-- Is a node without cells, if one knows it of those ahead? -/
def empS (E : List Bool) (x : Nd) : Bool := (List.range 4).all fun k => decide (x.kid k = 0) || (decide (1 < x.lv) && E.getD (x.kid k).toNat true)
def empL (L : List Nd) : List Bool := L.foldl (fun E x => E ++ [empS E x]) [true]
theorem empL_snoc (L : List Nd) (x : Nd) : empL (L ++ [x]) = empL L ++ [empS (empL L) x] := by simp [empL]
theorem empL_len (L : List Nd) : (empL L).length = L.length + 1 := by
  rcases snoc_cases L with rfl | ⟨l, a, rfl⟩
  · rfl
  · rw [empL_snoc]; have := empL_len l; simp [this]
termination_by L.length
decreasing_by (subst_vars; simp)
theorem empL_take (L : List Nd) {i : Nat} (hi : i < L.length) : empL (L.take (i + 1)) = empL (L.take i) ++ [empS (empL (L.take i)) L[i]] := by
  rw [List.take_succ_eq_append_getElem hi, empL_snoc]
theorem q05_empties (L : List Nd) (tk : Tok) (H : AHeap) (hL : L.length < 140737488355327) (hl : looseB L = true) : Sh.gliderref05_Empties (.sl (enL cNd L) tk) H = some (.ret (.sl (enL cB (empL L)) .no), H) := by
  have hmk := make_flat (f := cB) (a := false) (n := L.length + 1) (bytes := 1) (H := H) (by omega) (by omega)
  have hid := idx_ms (sz := 1) (id := H.length) (n := L.length + 1) (K := .i64) (g := 0) (off := 0) (cap := L.length + 1) (ex := true) (i := 0) (by omega)
  have hst := store_el (f := cB) (sz := 1) (l := List.replicate (L.length + 1) false) (i := 0) (a := true) (v := .bool true) (H := H ++ [.cel 0 (flat cB (List.replicate (L.length + 1) false))]) (id := H.length) (by simp) (by simp) rfl
  unfold Sh.gliderref05_Empties
  simp only [len_enL, obind, bin_add, wrap_succ (show L.length < 9223372036854775807 by omega), hmk, afterA_some]
  simp only [Nat.zero_mul, Nat.add_zero] at hid
  rw [show ((0 : Nat) : Int) = 0 from rfl] at hid
  simp only [Nat.zero_mul] at hst
  rw [hid]
  simp only [obind, hst, retH_some, bP_ret, setC_app0, setC_zero]
  have key := loop_up (G := fun rec1 vs H1 => Sh.gliderref05_Empties_l1 H rec1 (ag vs 0) (ag vs 1) (ag vs 2) H1) L.length (fun i => [.sl (enL cNd L) tk, .ms H.length 0 0 (L.length + 1) (L.length + 1) 1 true, .int .i64 (i : Int)]) (fun i => H ++ [.cel 0 (flat cB (empL (L.take i) ++ List.replicate (L.length - i) false))]) (some (.ret (.sl (enL cB (empL L)) .no), H)) (by omega) (fun rec i hi => ?_) (fun rec => ?_)
  · have e : (List.replicate (L.length + 1) false).set 0 true = empL (L.take 0) ++ List.replicate (L.length - 0) false := by simp [List.replicate_succ, empL]
    rw [e]; exact key
  · have hi' : (i : Int) < (L.length : Int) := by omega
    obtain ⟨l1, l2, l3⟩ := loose_get hl hi
    have hEl : (empL (L.take i)).length = i + 1 := by rw [empL_len]; simp; omega
    unfold Sh.gliderref05_Empties_l1
    simp only [ag_zero, ag_1, ag_2, len_enL, obind, bin_lss, hi', decide_true, condA_true]
    have hs : ∀ k, k < 4 → 1 < L[i].lv → (empL (L.take i) ++ List.replicate (L.length - i) false).getD (L[i].kid k).toNat true = (empL (L.take i)).getD (L[i].kid k).toNat true := by
      intro k hk h1
      obtain ⟨q1, q2, q3⟩ := l3 k hk
      have : (L[i].kid k).toNat < (empL (L.take i)).length := by
        rw [hEl]
        by_cases h0 : 0 < L[i].kid k
        · have := (q3 h1 h0).1; omega
        · omega
      simp only [List.getD_eq_getElem?_getD, List.getElem?_append_left this]
    have hb : ∀ k, k < 4 → 1 < L[i].lv → (L[i].kid k).toNat < L.length + 1 := by
      intro k hk h1
      obtain ⟨q1, q2, q3⟩ := l3 k hk
      by_cases h0 : 0 < L[i].kid k
      · have := (q3 h1 h0).1; omega
      · omega
    have hEs : empS (empL (L.take i)) L[i] = (List.range 4).all fun k => decide (L[i].kid k = 0) || (decide (1 < L[i].lv) && (empL (L.take i) ++ List.replicate (L.length - i) false).getD (L[i].kid k).toNat true) := by
      unfold empS
      rw [range4, range4]
      by_cases h1 : 1 < L[i].lv
      · simp only [hs 0 (by omega) h1, hs 1 (by omega) h1, hs 2 (by omega) h1, hs 3 (by omega) h1]
      · simp only [h1, decide_false, Bool.false_and]
    have hset : (empL (L.take i) ++ List.replicate (L.length - i) false).set (i + 1) (empS (empL (L.take i)) L[i]) = empL (L.take (i + 1)) ++ List.replicate (L.length - (i + 1)) false := by
      rw [empL_take L hi, List.set_append_right _ _ (by omega), hEl, Nat.sub_self, show L.length - i = (L.length - (i + 1)) + 1 from by omega, List.replicate_succ, List.set_cons_zero]
      simp
    have hlen : (empL (L.take i) ++ List.replicate (L.length - i) false).length = L.length + 1 := by simp [hEl]; omega
    rw [← hset, hEs]
    generalize empL (L.take i) ++ List.replicate (L.length - i) false = E at hlen
    generalize hx : L[i] = x at l1 l2 l3 hb
    have hgc : getCells (H ++ [.cel 0 (flat cB E)]) H.length 0 = some (flat cB E) := by simp
    refine loop_up (G := fun rec2 vs H1 => Sh.gliderref05_Empties_l2 H rec rec2 (ag vs 0) (ag vs 1) (ag vs 2) (ag vs 3) (ag vs 4) H1) 4 (fun k => [.sl (enL cNd L) tk, .ms H.length 0 0 (L.length + 1) (L.length + 1) 1 true, .int .i64 (i : Int), .bool ((List.range k).all fun k => decide (x.kid k = 0) || (decide (1 < x.lv) && E.getD (x.kid k).toNat true)), .int .i64 (k : Int)]) (fun _ => H ++ [.cel 0 (flat cB E)]) _ (by decide) (fun rec2 k hk => ?_) (fun rec2 => ?_)
    · have hk' : (k : Int) < 4 := by omega
      obtain ⟨q1, q2, q3⟩ := l3 k hk
      have hb' := hb k hk
      unfold Sh.gliderref05_Empties_l2
      have hsucc : ((List.range (k + 1)).all fun k => decide (x.kid k = 0) || (decide (1 < x.lv) && E.getD (x.kid k).toNat true)) = (((List.range k).all fun k => decide (x.kid k = 0) || (decide (1 < x.lv) && E.getD (x.kid k).toNat true)) && (decide (x.kid k = 0) || (decide (1 < x.lv) && E.getD (x.kid k).toNat true))) := by
        rw [List.range_succ, List.all_append]; simp
      rw [hsucc]
      generalize ((List.range k).all fun k => decide (x.kid k = 0) || (decide (1 < x.lv) && E.getD (x.kid k).toNat true)) = e
      simp only [ag_zero, ag_1, ag_2, ag_3, ag_4, obind, bin_lss, hk', decide_true, condA_true, idx_enL hi, hx, fieldAddr_cptr, idx_kid hk, load_cptr, Nat.zero_add, Nat.mul_one, cNd_kid hk, cNd_0, wrap_succ (show k < 9223372036854775807 by omega), bin_add, bin_eql, bin_gtr]
      obtain ⟨n, hn⟩ := Int.eq_ofNat_of_zero_le q1
      rw [hn] at hb' ⊢
      simp only [Int.toNat_natCast] at hb' ⊢
      cases e with
      | false => simp
      | true =>
        by_cases h0 : n = 0
        · subst h0; simp
        · by_cases h1 : 1 < x.lv
          · have hnE : n < E.length := by rw [hlen]; exact hb' h1
            have hid2 := idx_ms (sz := 1) (id := H.length) (n := L.length + 1) (K := .i64) (g := 0) (off := 0) (cap := L.length + 1) (ex := true) (i := n) (hb' h1)
            simp only [Nat.zero_add, Nat.mul_one] at hid2
            have hld := load_el (f := cB) hgc hnE
            simp [h0, h1, hx, idx_enL hi, hid2, hld, List.getElem?_eq_getElem hnE]
          · simp [h0, h1, hx, idx_enL hi]
    · have hid2 := idx_ms (sz := 1) (id := H.length) (n := L.length + 1) (K := .i64) (g := 0) (off := 0) (cap := L.length + 1) (ex := true) (i := i + 1) (by omega)
      simp only [Nat.zero_add, Nat.mul_one] at hid2
      have hst2 := store_el (f := cB) (sz := 1) (l := E) (i := i + 1) (a := (List.range 4).all fun k => decide (x.kid k = 0) || (decide (1 < x.lv) && E.getD (x.kid k).toNat true)) (H := H ++ [.cel 0 (flat cB E)]) (id := H.length) hgc (by omega) (v := .bool ((List.range 4).all fun k => decide (x.kid k = 0) || (decide (1 < x.lv) && E.getD (x.kid k).toNat true))) rfl
      simp only [Nat.mul_one] at hst2
      unfold Sh.gliderref05_Empties_l2
      have hf : ¬ (((4 : Nat) : Int) < 4) := by decide
      simp only [ag_zero, ag_1, ag_2, ag_3, ag_4, obind, bin_lss, hf, decide_false, condA_false, bin_add, wrap_succ (show i < 9223372036854775807 by omega), hid2, hst2, retH_some, bP_ret, setC_app0, setC_zero]
  · unfold Sh.gliderref05_Empties_l1
    have hgc : getCells (H ++ [.cel 0 (flat cB (empL L))]) H.length 0 = some (flat cB (empL L)) := by simp
    have hfa := fall_ms (f := cB) (b := H.length) (d := 5) (cap := L.length + 1) (ex := true) hgc (Nat.le_refl _)
    rw [empL_len] at hfa
    have ht : L.take L.length = L := List.take_of_length_le (Nat.le_refl _)
    simp only [ag_zero, ag_1, ag_2, len_enL, obind, bin_lss, Int.lt_irrefl, decide_false, condA_false, ht, Nat.sub_self, List.replicate_zero, List.append_nil, rPN_app, hfa, Option.map_some]
theorem q05_empty (L : List Nd) (tk : Tok) (n : Nat) (H : AHeap) (hL : L.length < 140737488355327) (hl : looseB L = true) (hn : n ≤ L.length) : Sh.gliderref05_Empty (.sl (enL cNd L) tk) (.int .i64 (n : Int)) H = some (.ret (.bool ((empL L).getD n true)), H) := by
  have hlt : n < (empL L).length := by rw [empL_len]; omega
  unfold Sh.gliderref05_Empty
  simp [q05_empties L tk H hL hl, idx_enL hlt, List.getD_eq_getElem?_getD, List.getElem?_eq_getElem hlt]
end Go.Gm
/- Chapter 5 of the document: hollow nodes, and their inner ones. -/
namespace Go.Gm
set_option linter.unusedVariables false
set_option linter.unusedSimpArgs false
/-- The kid of a number, its node; no node: one of level 0. -/
def ndAt (L : List Nd) (c : Int) : Nd := L.getD (c - 1).toNat ⟨0, 0, 0, 0, 0⟩
def holK (L : List Nd) (E : List Bool) (x : Nd) (k j : Nat) : Bool :=
  decide (j = 3 - k) || (if x.lv = 2 then decide ((ndAt L (x.kid k)).kid j = 0) else E.getD ((ndAt L (x.kid k)).kid j).toNat true)
def hol (L : List Nd) (E : List Bool) (x : Nd) : Bool :=
  (List.range 4).all fun k => decide (x.kid k = 0) || (List.range 4).all (holK L E x k)
def hollowB (L : List Nd) (n : Nat) : Bool :=
  decide (n ≠ 0) && decide (2 ≤ (ndAt L n).lv) && hol L (empL L) (ndAt L n)
theorem ndAt_eq {L : List Nd} {c : Int} {n : Nat} (hc : c = ((n + 1 : Nat) : Int)) (h : n < L.length) : ndAt L c = L[n] := by
  have : (c - 1).toNat = n := by omega
  unfold ndAt; rw [this, List.getD_eq_getElem?_getD, List.getElem?_eq_getElem h]; rfl
theorem q05_hollow (L : List Nd) (tk : Tok) (n : Nat) (H : AHeap) (hL : L.length < 140737488355327) (hl : looseB L = true) (hn : n ≤ L.length) : Sh.gliderref05_Hollow (.sl (enL cNd L) tk) (.int .i64 (n : Int)) H = some (.ret (.bool (hollowB L n)), H) := by
  unfold Sh.gliderref05_Hollow hollowB
  cases n with
  | zero => simp
  | succ n =>
    have hi : n < L.length := hn
    have e0 : ¬ ((n + 1 : Nat) : Int) = 0 := by omega
    obtain ⟨l1, l2, l3⟩ := loose_get hl hi
    rw [ndAt_eq rfl hi]
    generalize hx : L[n] = x at l1 l2 l3
    have hw : IntKind.i64.wrap (((n + 1 : Nat) : Int) - 1) = (n : Int) := by rw [wrap_i64] <;> omega
    simp only [bin_eql, beq_dec, e0, decide_false, obind, gk_ff, bin_sub, hw, idx_enL hi, hx, fieldAddr_cptr, load_cptr, Nat.add_zero, cNd_0, bin_lss, condV_false]
    by_cases h2 : x.lv < 2
    · have : ¬ 2 ≤ x.lv := by omega
      simp [h2, this]
    · have h2' : 2 ≤ x.lv := by omega
      simp only [h2, h2', decide_false, condA_false, q05_empties L tk H hL hl, bK_ret, decide_true, ne_eq, Nat.succ_ne_zero, not_false_eq_true, Bool.true_and]
      have key := loop_all (G := fun rec1 vs H1 => Sh.gliderref05_Hollow_l1 H rec1 (ag vs 0) (ag vs 1) (ag vs 2) (ag vs 3) H1) 4 (fun k => decide (x.kid k = 0) || (List.range 4).all (holK L (empL L) x k))
        (fun k => [.sl (enL cNd L) tk, .int .i64 ((n + 1 : Nat) : Int), .sl (enL cB (empL L)) .no, .int .i64 (k : Int)]) H (some (.ret (.bool true), H)) (some (.ret (.bool false), H)) (by decide) (fun rec k hk => ?_) (fun rec => ?_)
      · refine key.trans ?_
        rw [show hol L (empL L) x = (List.range 4).all fun k => decide (x.kid k = 0) || (List.range 4).all (holK L (empL L) x k) from rfl]
        cases (List.range 4).all fun k => decide (x.kid k = 0) || (List.range 4).all (holK L (empL L) x k) <;> rfl
      · have hk' : (k : Int) < 4 := by omega
        obtain ⟨q1, q2, q3⟩ := l3 k hk
        unfold Sh.gliderref05_Hollow_l1
        simp only [ag_zero, ag_1, ag_2, ag_3, obind, bin_lss, hk', decide_true, condA_true, bin_sub, hw, idx_enL hi, hx, fieldAddr_cptr, idx_kid hk, load_cptr, Nat.zero_add, Nat.mul_one, cNd_kid hk]
        have hws : IntKind.i64.wrap ((k : Int) + 1) = ((k + 1 : Nat) : Int) := wrap_succ (by omega)
        by_cases hc : x.kid k = 0
        · rw [loop_turn fuel_pos]
          unfold Sh.gliderref05_Hollow_l2
          simp only [hc, decide_true, Bool.true_or, if_true, ag_zero, ag_1, ag_2, ag_3, ag_4, ag_5, bin_lss, obind, show ((0 : Int) < 4) from by decide, gk_tt, bin_gtr, show ¬ ((0 : Int) > 0) from by decide, decide_false, condV_true, condA_false, bin_add, hws]
        · obtain ⟨m, hm⟩ : ∃ m : Nat, x.kid k = ((m + 1 : Nat) : Int) := ⟨(x.kid k - 1).toNat, by omega⟩
          have h1 : 1 < x.lv := by omega
          obtain ⟨r1, r2⟩ := q3 h1 (by omega)
          have hmn : m < n := by omega
          have hml : m < L.length := by omega
          have hy := r2 L[m] (by rw [show (x.kid k - 1).toNat = m from by omega]; exact List.getElem?_eq_getElem hml)
          obtain ⟨y1, y2, y3⟩ := loose_get hl hml
          have hE : ∀ j, j < 4 → 2 < x.lv → (L[m].kid j).toNat < (empL L).length := by
            intro j hj h3
            obtain ⟨s1, s2, s3⟩ := y3 j hj
            rw [empL_len]
            by_cases h0 : 0 < L[m].kid j
            · have := (s3 (by omega) h0).1; omega
            · omega
          have hp : holK L (empL L) x k = fun j => decide (j = 3 - k) || (if x.lv = 2 then decide (L[m].kid j = 0) else (empL L).getD (L[m].kid j).toNat true) := by
            funext j; unfold holK; rw [ndAt_eq hm hml]
          have hwm : IntKind.i64.wrap (((m + 1 : Nat) : Int) - 1) = (m : Int) := by rw [wrap_i64] <;> omega
          have hc' : ¬ ((m + 1 : Nat) : Int) = 0 := by omega
          simp only [hp, hm, hc', decide_false, Bool.false_or]
          generalize hyy : L[m] = y at y1 y2 y3 hy hE
          refine loop_all (G := fun rec2 vs H1 => Sh.gliderref05_Hollow_l2 H rec rec2 (ag vs 0) (ag vs 1) (ag vs 2) (ag vs 3) (ag vs 4) (ag vs 5) H1) 4 _
            (fun j => [.sl (enL cNd L) tk, .int .i64 ((n + 1 : Nat) : Int), .sl (enL cB (empL L)) .no, .int .i64 (k : Int), .int .i64 ((m + 1 : Nat) : Int), .int .i64 (j : Int)]) H _ _ (by decide) (fun rec2 j hj => ?_) (fun rec2 => ?_)
          · have hj' : (j : Int) < 4 := by omega
            have hm0 : ((m + 1 : Nat) : Int) > 0 := by omega
            have hw3 : IntKind.i64.wrap (3 - (k : Int)) = 3 - (k : Int) := wrap_i64 (by omega) (by omega)
            have hjs : IntKind.i64.wrap ((j : Int) + 1) = ((j + 1 : Nat) : Int) := wrap_succ (by omega)
            obtain ⟨s1, s2, s3⟩ := y3 j hj
            have hE' := hE j hj
            unfold Sh.gliderref05_Hollow_l2
            simp only [ag_zero, ag_1, ag_2, ag_3, ag_4, ag_5, bin_lss, obind, hj', decide_true, gk_tt, bin_gtr, hm0, condV_true, condA_true, bin_sub, hw, hwm, hw3, idx_enL hml, hyy, idx_enL hi, hx, fieldAddr_cptr, idx_kid hj, load_cptr, Nat.zero_add, Nat.add_zero, Nat.mul_one, cNd_kid hj, cNd_0, bin_neq, bne_dec, bin_eql, beq_dec, bin_add, hjs]
            obtain ⟨g, hg⟩ := Int.eq_ofNat_of_zero_le s1
            rw [hg] at hE' ⊢
            simp only [Int.toNat_natCast] at hE' ⊢
            by_cases h3k : j = 3 - k
            · have h3 : (j : Int) = 3 - (k : Int) := by omega
              simp only [obind, ag_zero, ag_1, ag_2, ag_3, ag_4, ag_5, bin_lss, bin_gtr, bin_leq, bin_geq, bin_eql, bin_neq, beq_dec, bne_dec, bin_add, bin_sub, bin_mul, condA_true, condA_false, condV_true, condV_false, gk_tt, gk_ff, gk_tf, gk_ft, gk_s, gkc_tt, gkc_ff, gkc_tf, gkc_ft, gkc_s, bC_chk, chk_true, gbK_tt, gbK_ff, gbK_tf, gbK_ft, gbK_s, gbP_tt, gbP_ff, gbP_tf, gbP_ft, gbP_s, gbN_tt, gbN_ff, gbN_tf, gbN_ft, gbN_s, bindN_ret, joinPt, decide_true, decide_false, Bool.not_true, Bool.not_false, bK_ret, bP_ret, rK_eq, rKN_eq, un_not, if_true, Bool.false_eq_true, if_false, retV_some, retH_some, retVH_some, afterA_some, Bool.false_or, Bool.true_or, Bool.or_false, Bool.or_true, decide_eq_true h3, decide_eq_true h3k, Bool.true_or]
            · have h3 : ¬ (j : Int) = 3 - (k : Int) := by omega
              simp only [h3k, h3, GMb, joinPt, decide_true, decide_false, if_true, if_false, fieldAddr_cptr, fieldAddr_ptr, load_cptr, Nat.zero_add, Nat.add_zero, Nat.mul_one, cNd_0, Bool.false_or]
              by_cases hx2 : x.lv = 2
              · have hx3 : ¬ (2 : Int) > 2 := by decide
                by_cases hg0 : (g : Int) = 0
                · simp only [obind, ag_zero, ag_1, ag_2, ag_3, ag_4, ag_5, bin_lss, bin_gtr, bin_leq, bin_geq, bin_eql, bin_neq, beq_dec, bne_dec, bin_add, bin_sub, bin_mul, condA_true, condA_false, condV_true, condV_false, gk_tt, gk_ff, gk_tf, gk_ft, gk_s, gkc_tt, gkc_ff, gkc_tf, gkc_ft, gkc_s, bC_chk, chk_true, gbK_tt, gbK_ff, gbK_tf, gbK_ft, gbK_s, gbP_tt, gbP_ff, gbP_tf, gbP_ft, gbP_s, gbN_tt, gbN_ff, gbN_tf, gbN_ft, gbN_s, bindN_ret, joinPt, decide_true, decide_false, Bool.not_true, Bool.not_false, bK_ret, bP_ret, rK_eq, rKN_eq, un_not, if_true, Bool.false_eq_true, if_false, retV_some, retH_some, retVH_some, afterA_some, Bool.false_or, Bool.true_or, Bool.or_false, Bool.or_true, fieldAddr_cptr, fieldAddr_ptr, load_cptr, Nat.zero_add, Nat.add_zero, Nat.mul_one, cNd_0, hw, idx_enL hi, hx, hx2, hg0, hx3]
                · simp only [obind, ag_zero, ag_1, ag_2, ag_3, ag_4, ag_5, bin_lss, bin_gtr, bin_leq, bin_geq, bin_eql, bin_neq, beq_dec, bne_dec, bin_add, bin_sub, bin_mul, condA_true, condA_false, condV_true, condV_false, gk_tt, gk_ff, gk_tf, gk_ft, gk_s, gkc_tt, gkc_ff, gkc_tf, gkc_ft, gkc_s, bC_chk, chk_true, gbK_tt, gbK_ff, gbK_tf, gbK_ft, gbK_s, gbP_tt, gbP_ff, gbP_tf, gbP_ft, gbP_s, gbN_tt, gbN_ff, gbN_tf, gbN_ft, gbN_s, bindN_ret, joinPt, decide_true, decide_false, Bool.not_true, Bool.not_false, bK_ret, bP_ret, rK_eq, rKN_eq, un_not, if_true, Bool.false_eq_true, if_false, retV_some, retH_some, retVH_some, afterA_some, Bool.false_or, Bool.true_or, Bool.or_false, Bool.or_true, fieldAddr_cptr, fieldAddr_ptr, load_cptr, Nat.zero_add, Nat.add_zero, Nat.mul_one, cNd_0, hw, idx_enL hi, hx, hx2, hg0, hx3]
              · have hx3 : x.lv > 2 := by omega
                have hlt := hE' hx3
                have hgd : (empL L).getD g true = (empL L)[g] := by rw [List.getD_eq_getElem?_getD, List.getElem?_eq_getElem hlt]; rfl
                simp only [obind, ag_zero, ag_1, ag_2, ag_3, ag_4, ag_5, bin_lss, bin_gtr, bin_leq, bin_geq, bin_eql, bin_neq, beq_dec, bne_dec, bin_add, bin_sub, bin_mul, condA_true, condA_false, condV_true, condV_false, gk_tt, gk_ff, gk_tf, gk_ft, gk_s, gkc_tt, gkc_ff, gkc_tf, gkc_ft, gkc_s, bC_chk, chk_true, gbK_tt, gbK_ff, gbK_tf, gbK_ft, gbK_s, gbP_tt, gbP_ff, gbP_tf, gbP_ft, gbP_s, gbN_tt, gbN_ff, gbN_tf, gbN_ft, gbN_s, bindN_ret, joinPt, decide_true, decide_false, Bool.not_true, Bool.not_false, bK_ret, bP_ret, rK_eq, rKN_eq, un_not, if_true, Bool.false_eq_true, if_false, retV_some, retH_some, retVH_some, afterA_some, Bool.false_or, Bool.true_or, Bool.or_false, Bool.or_true, fieldAddr_cptr, fieldAddr_ptr, load_cptr, Nat.zero_add, Nat.add_zero, Nat.mul_one, cNd_0, hw, idx_enL hi, hx, hx2, hx3, idx_enL hlt, hgd, List.getElem?_cons_zero]
                cases (empL L)[g] <;> simp only [obind, ag_zero, ag_1, ag_2, ag_3, ag_4, ag_5, bin_lss, bin_gtr, bin_leq, bin_geq, bin_eql, bin_neq, beq_dec, bne_dec, bin_add, bin_sub, bin_mul, condA_true, condA_false, condV_true, condV_false, gk_tt, gk_ff, gk_tf, gk_ft, gk_s, gkc_tt, gkc_ff, gkc_tf, gkc_ft, gkc_s, bC_chk, chk_true, gbK_tt, gbK_ff, gbK_tf, gbK_ft, gbK_s, gbP_tt, gbP_ff, gbP_tf, gbP_ft, gbP_s, gbN_tt, gbN_ff, gbN_tf, gbN_ft, gbN_s, bindN_ret, joinPt, decide_true, decide_false, Bool.not_true, Bool.not_false, bK_ret, bP_ret, rK_eq, rKN_eq, un_not, if_true, Bool.false_eq_true, if_false, retV_some, retH_some, retVH_some, afterA_some, Bool.false_or, Bool.true_or, Bool.or_false, Bool.or_true]
          · have hf : ¬ (((4 : Nat) : Int) < 4) := by decide
            unfold Sh.gliderref05_Hollow_l2
            simp only [ag_zero, ag_1, ag_2, ag_3, ag_4, ag_5, bin_lss, obind, hf, decide_false, gk_ft, gk_tf, condV_false, condA_false, bin_add, hws]
      · have hf : ¬ (((4 : Nat) : Int) < 4) := by decide
        unfold Sh.gliderref05_Hollow_l1
        simp only [ag_zero, ag_1, ag_2, ag_3, bin_lss, obind, hf, decide_false, condA_false, rK_eq]
theorem q05_inner (L : List Nd) (tk : Tok) (n k : Nat) (H : AHeap) (hL : L.length < 140737488355327) (hl : looseB L = true) (hn : n < L.length) (h2 : 2 ≤ L[n].lv) (hk : k < 4) :
    Sh.gliderref05_Inner (.sl (enL cNd L) tk) (.int .i64 ((n + 1 : Nat) : Int)) (.int .i64 (k : Int)) H = some (.ret (.int .i64 (if L[n].kid k = 0 then 0 else (ndAt L (L[n].kid k)).kid (3 - k))), H) := by
  obtain ⟨l1, l2, l3⟩ := loose_get hl hn
  obtain ⟨q1, q2, q3⟩ := l3 k hk
  have hw : IntKind.i64.wrap (((n + 1 : Nat) : Int) - 1) = (n : Int) := by rw [wrap_i64] <;> omega
  unfold Sh.gliderref05_Inner
  simp only [bin_sub, obind, hw, idx_enL hn, fieldAddr_cptr, idx_kid hk, load_cptr, Nat.zero_add, Nat.mul_one, cNd_kid hk, bin_eql, beq_dec]
  by_cases hc : L[n].kid k = 0
  · simp [hc]
  · obtain ⟨m, hm⟩ : ∃ m : Nat, L[n].kid k = ((m + 1 : Nat) : Int) := ⟨(L[n].kid k - 1).toNat, by omega⟩
    obtain ⟨r1, r2⟩ := q3 (by omega) (by omega)
    have hml : m < L.length := by omega
    have hwm : IntKind.i64.wrap (((m + 1 : Nat) : Int) - 1) = (m : Int) := by rw [wrap_i64] <;> omega
    have hw3 : IntKind.i64.wrap (3 - (k : Int)) = ((3 - k : Nat) : Int) := by rw [wrap_i64] <;> omega
    simp only [hc, decide_false, condA_false, if_false, ndAt_eq hm hml]
    rw [hm]
    simp only [hwm, hw3, obind, idx_enL hml, fieldAddr_cptr, Nat.zero_add, idx_kid (show 3 - k < 4 by omega), load_cptr, Nat.mul_one, cNd_kid (show 3 - k < 4 by omega), rK_eq]
end Go.Gm
/- Chapter 5 of the document: in which order nodes come to an end. -/
namespace Go.Gm
set_option linter.unusedVariables false
set_option linter.unusedSimpArgs false
def endK (rec : Nat → List Nat → List Nat) (x : Nd) (k : Nat) (out : List Nat) : List Nat :=
  (List.range k).foldl (fun o k => if 1 < x.lv ∧ 0 < x.kid k then rec (x.kid k).toNat o else o) out
def endF (L : List Nd) : Nat → Nat → List Nat → List Nat
  | 0, _, out => out
  | v + 1, n, out => if n ∈ out then out else endK (endF L v) (ndAt L n) 4 out ++ [n]
def endOk (N : Nat) (out : List Nat) : Prop := out.Nodup ∧ ∀ x ∈ out, 1 ≤ x ∧ x ≤ N
theorem nodup_len : ∀ (N : Nat) (out : List Nat), endOk N out → out.length ≤ N
  | 0, out, h => by
    cases out with
    | nil => simp
    | cons a l => have := h.2 a (by simp); omega
  | N + 1, out, h => by
    have h1 : endOk N (out.erase (N + 1)) := ⟨h.1.erase _, fun x hx => by
      have := (h.1.mem_erase_iff).1 hx
      have := h.2 x this.2
      omega⟩
    have := nodup_len N _ h1
    rw [List.length_erase] at this
    split at this <;> omega
theorem endK_succ (rec : Nat → List Nat → List Nat) (x : Nd) (k : Nat) (out : List Nat) : endK rec x (k + 1) out = if 1 < x.lv ∧ 0 < x.kid k then rec (x.kid k).toNat (endK rec x k out) else endK rec x k out := by
  simp [endK, List.range_succ]
theorem endK_ind {rec : Nat → List Nat → List Nat} {x : Nd} {out : List Nat} (P : List Nat → Prop) (h0 : P out) (hs : ∀ k o, k < 4 → 1 < x.lv → 0 < x.kid k → P o → P (rec (x.kid k).toNat o)) : ∀ k, k ≤ 4 → P (endK rec x k out)
  | 0, _ => h0
  | k + 1, h => by
    rw [endK_succ]
    split
    · rename_i hc; exact hs k _ (by omega) hc.1 hc.2 (endK_ind P h0 hs k (by omega))
    · exact endK_ind P h0 hs k (by omega)
theorem ndAt_nat {L : List Nd} {n : Nat} (h : n < L.length) : ndAt L ((n + 1 : Nat) : Int) = L[n] := ndAt_eq rfl h
theorem endF_ok {L : List Nd} (hl : looseB L = true) : ∀ (v n : Nat) (out : List Nat), 1 ≤ n → n ≤ L.length → endOk L.length out → endOk L.length (endF L v n out) ∧ (∀ x ∈ out, x ∈ endF L v n out) ∧ ∀ x ∈ endF L v n out, x ∈ out ∨ x ≤ n
  | 0, n, out, h1, h2, ho => ⟨ho, fun x hx => hx, fun x hx => .inl hx⟩
  | v + 1, n, out, h1, h2, ho => by
    obtain ⟨m, rfl⟩ : ∃ m, n = m + 1 := ⟨n - 1, by omega⟩
    have hm : m < L.length := by omega
    obtain ⟨l1, l2, l3⟩ := loose_get hl hm
    simp only [endF]
    split
    · exact ⟨ho, fun x hx => hx, fun x hx => .inl hx⟩
    · rename_i hn
      rw [ndAt_nat hm]
      have key := endK_ind (rec := endF L v) (x := L[m]) (out := out) (fun o => endOk L.length o ∧ (∀ x ∈ out, x ∈ o) ∧ ∀ x ∈ o, x ∈ out ∨ x ≤ m) ⟨ho, fun x hx => hx, fun x hx => .inl hx⟩ (fun k o hk hlv hkid hP => by
        obtain ⟨q1, q2, q3⟩ := l3 k hk
        have := (q3 hlv hkid).1
        obtain ⟨r1, r2, r3⟩ := endF_ok hl v (L[m].kid k).toNat o (by omega) (by omega) hP.1
        exact ⟨r1, fun x hx => r2 x (hP.2.1 x hx), fun x hx => by
          rcases r3 x hx with h | h
          · exact hP.2.2 x h
          · right; omega⟩) 4 (by omega)
      obtain ⟨⟨k1, k2⟩, k3, k4⟩ := key
      generalize endK (endF L v) L[m] 4 out = o at k1 k2 k3 k4
      have hno : m + 1 ∉ o := fun h => by
        rcases k4 _ h with h | h
        · exact hn h
        · omega
      refine ⟨⟨?_, ?_⟩, ?_, ?_⟩
      · rw [List.nodup_append]
        exact ⟨k1, by simp, fun a ha b hb e => by simp at hb; subst hb; subst e; exact hno ha⟩
      · intro x hx
        simp only [List.mem_append, List.mem_singleton] at hx
        rcases hx with hx | rfl
        · exact k2 x hx
        · omega
      · intro x hx; simp [k3 x hx]
      · intro x hx
        simp only [List.mem_append, List.mem_singleton] at hx
        rcases hx with hx | rfl
        · rcases k4 x hx with h | h
          · exact .inl h
          · exact .inr (by omega)
        · exact .inr (Nat.le_refl _)
theorem append_outN {B : AHeap} {l : List Nat} {n : Nat} (h : l.length < 17592186044415) : appendA ty_int 1 8 (outS cN B l) (.sl (enL cN [n]) .tight) (outT cN ty_int 1 B l) = some (outS cN B (l ++ [n]), outT cN ty_int 1 B (l ++ [n])) :=
  append_out (by simp) (by simp; omega) (by simp; omega)
theorem q05_end {L : List Nd} (tk : Tok) (B : AHeap) (hL : L.length < 17592186044415) (hl : looseB L = true) : ∀ (v n d : Nat) (out : List Nat), 1 ≤ n → n ≤ L.length → (ndAt L n).lv = v → v ≤ d → endOk L.length out →
    Sh.gliderref05_end d (.sl (enL cNd L) tk) (.int .i64 (n : Int)) (outS cN B out) (outT cN ty_int 1 B out) = some (.ret (outS cN B (endF L v n out)), outT cN ty_int 1 B (endF L v n out)) := by
  intro v
  induction v with
  | zero =>
    intro n d out h1 h2 hv hd ho
    exfalso
    obtain ⟨m, rfl⟩ : ∃ m, n = m + 1 := ⟨n - 1, by omega⟩
    rw [ndAt_nat (by omega)] at hv
    have := (loose_get hl (show m < L.length by omega)).1
    omega
  | succ v ih =>
    intro n d out h1 h2 hv hd ho
    obtain ⟨d, rfl⟩ : ∃ e, d = e + 1 := ⟨d - 1, by omega⟩
    obtain ⟨m, rfl⟩ : ∃ m, n = m + 1 := ⟨n - 1, by omega⟩
    have hm : m < L.length := by omega
    obtain ⟨l1, l2, l3⟩ := loose_get hl hm
    have hln := nodup_len _ _ ho
    rw [ndAt_nat hm] at hv
    show Sh.gliderref05_end_F (Sh.gliderref05_end d) _ _ _ _ = _
    unfold Sh.gliderref05_end_F
    have key := loop_first (G := fun rec1 vs H1 => Sh.gliderref05_end_l1 (outT cN ty_int 1 B out) (Sh.gliderref05_end d) rec1 (ag vs 0) (ag vs 1) (ag vs 2) (ag vs 3) H1) out.length (fun i => decide (out.getD i 0 = m + 1))
      (fun i => [.sl (enL cNd L) tk, .int .i64 ((m + 1 : Nat) : Int), outS cN B out, .int .i64 (i : Int)]) (outT cN ty_int 1 B out) (some (.ret (outS cN B (endK (endF L v) L[m] 4 out ++ [m + 1])), outT cN ty_int 1 B (endK (endF L v) L[m] 4 out ++ [m + 1]))) (fun _ => some (.ret (outS cN B out), outT cN ty_int 1 B out)) (by omega) (fun rec i hi => ?_) (fun rec => ?_)
    · refine key.trans ?_
      by_cases hmem : m + 1 ∈ out
      · obtain ⟨i, hi, hx⟩ := List.getElem_of_mem hmem
        have hf : ∃ j, (List.range out.length).find? (fun i => decide (out.getD i 0 = m + 1)) = some j := by
          cases hq : (List.range out.length).find? (fun i => decide (out.getD i 0 = m + 1)) with
          | some j => exact ⟨j, rfl⟩
          | none =>
            have := List.find?_eq_none.1 hq i (by simpa using hi)
            simp [List.getD_eq_getElem?_getD, List.getElem?_eq_getElem hi, hx] at this
        obtain ⟨j, hj⟩ := hf
        rw [hj]; simp only [endF, if_pos hmem]
      · have hf : (List.range out.length).find? (fun i => decide (out.getD i 0 = m + 1)) = none := by
          rw [List.find?_eq_none]
          intro i hi
          have hi' : i < out.length := by simpa using hi
          rw [List.getD_eq_getElem?_getD, List.getElem?_eq_getElem hi']
          simp only [Option.getD_some, decide_eq_true_eq]
          intro e; exact hmem (e ▸ List.getElem_mem hi')
        rw [hf]; simp only [endF, if_neg hmem, ndAt_nat hm]
    · have hi' : (i : Int) < (out.length : Int) := by omega
      have hd2 : decide ((out[i] : Int) = ((m + 1 : Nat) : Int)) = decide (out.getD i 0 = m + 1) := by
        rw [List.getD_eq_getElem?_getD, List.getElem?_eq_getElem hi, Bool.eq_iff_iff]; simp; omega
      unfold Sh.gliderref05_end_l1
      simp only [GMb, joinPt, decide_true, decide_false, if_true, if_false, fieldAddr_cptr, fieldAddr_ptr, load_cptr, Nat.zero_add, Nat.add_zero, Nat.mul_one, cNd_0, outS_eq, len_enL, hi', idx_enL hi, List.getElem?_cons_zero, wrap_succ (show i < 9223372036854775807 by omega), hd2]
      cases decide (out.getD i 0 = m + 1) <;> simp only [GMb, joinPt, decide_true, decide_false, if_true, if_false]
    · unfold Sh.gliderref05_end_l1
      rw [outS_eq]
      simp only [GMb, joinPt, decide_true, decide_false, if_true, if_false, len_enL, Int.lt_irrefl]
      rw [← outS_eq]
      refine loop_up (G := fun rec2 vs H1 => Sh.gliderref05_end_l2 (outT cN ty_int 1 B out) (Sh.gliderref05_end d) rec2 (ag vs 0) (ag vs 1) (ag vs 2) (ag vs 3) H1) 4 (fun k => [.sl (enL cNd L) tk, .int .i64 ((m + 1 : Nat) : Int), outS cN B (endK (endF L v) L[m] k out), .int .i64 (k : Int)]) (fun k => outT cN ty_int 1 B (endK (endF L v) L[m] k out)) _ (by decide) (fun rec2 k hk => ?_) (fun rec2 => ?_)
      · have hk' : (k : Int) < 4 := by omega
        have hws : IntKind.i64.wrap ((k : Int) + 1) = ((k + 1 : Nat) : Int) := wrap_succ (by omega)
        have hwm : IntKind.i64.wrap (((m + 1 : Nat) : Int) - 1) = (m : Int) := by rw [wrap_i64] <;> omega
        obtain ⟨q1, q2, q3⟩ := l3 k hk
        have ho' : endOk L.length (endK (endF L v) L[m] k out) := endK_ind (fun o => endOk L.length o) ho (fun k o hk hlv hkid hP => by
          obtain ⟨q1, q2, q3⟩ := l3 k hk
          have := (q3 hlv hkid).1
          exact (endF_ok hl v (L[m].kid k).toNat o (by omega) (by omega) hP).1) k (by omega)
        unfold Sh.gliderref05_end_l2
        rw [endK_succ]
        generalize endK (endF L v) L[m] k out = o at ho'
        simp only [GMb, joinPt, decide_true, decide_false, if_true, if_false, fieldAddr_cptr, fieldAddr_ptr, load_cptr, Nat.zero_add, Nat.add_zero, Nat.mul_one, cNd_0, hk', hwm, idx_enL hm, Sh.gliderref05_end_j3, hws]
        by_cases hlv : 1 < L[m].lv
        · by_cases hkid : 0 < L[m].kid k
          · obtain ⟨r1, r2⟩ := q3 hlv hkid
            obtain ⟨c, hc⟩ : ∃ c : Nat, L[m].kid k = ((c + 1 : Nat) : Int) := ⟨(L[m].kid k - 1).toNat, by omega⟩
            have hcl : c < L.length := by omega
            have hy := r2 L[c] (by rw [show (L[m].kid k - 1).toNat = c from by omega]; exact List.getElem?_eq_getElem hcl)
            have hi2 := ih (c + 1) d o (by omega) (by omega) (by rw [ndAt_nat hcl]; omega) (by omega) ho'
            have hc0 : ((c + 1 : Nat) : Int) > 0 := by omega
            rw [if_pos ⟨hlv, hkid⟩]
            simp only [GMb, joinPt, decide_true, decide_false, if_true, if_false, fieldAddr_cptr, fieldAddr_ptr, load_cptr, Nat.zero_add, Nat.add_zero, Nat.mul_one, cNd_0, hlv, hwm, idx_enL hm, fieldAddr_cptr, idx_kid hk, cNd_kid hk, hc, hc0, hi2, gt_iff_lt, Int.toNat_natCast, Sh.gliderref05_end_j3, hws]
          · rw [if_neg (fun h => hkid h.2)]
            simp only [GMb, joinPt, decide_true, decide_false, if_true, if_false, fieldAddr_cptr, fieldAddr_ptr, load_cptr, Nat.zero_add, Nat.add_zero, Nat.mul_one, cNd_0, hlv, hwm, idx_enL hm, fieldAddr_cptr, idx_kid hk, cNd_kid hk, hkid, gt_iff_lt, Sh.gliderref05_end_j3, hws]
        · rw [if_neg (fun h => hlv h.1)]
          simp only [GMb, joinPt, decide_true, decide_false, if_true, if_false, fieldAddr_cptr, fieldAddr_ptr, load_cptr, Nat.zero_add, Nat.add_zero, Nat.mul_one, cNd_0, hlv, gt_iff_lt, Sh.gliderref05_end_j3, hws]
      · have hf : ¬ (((4 : Nat) : Int) < 4) := by decide
        have ho' : endOk L.length (endK (endF L v) L[m] 4 out) := endK_ind (fun o => endOk L.length o) ho (fun k o hk hlv hkid hP => by
          obtain ⟨q1, q2, q3⟩ := l3 k hk
          have := (q3 hlv hkid).1
          exact (endF_ok hl v (L[m].kid k).toNat o (by omega) (by omega) hP).1) 4 (by omega)
        have hle := nodup_len _ _ ho'
        unfold Sh.gliderref05_end_l2
        simp only [GMb, joinPt, decide_true, decide_false, if_true, if_false, hf, build_N, append_outN (show (endK (endF L v) L[m] 4 out).length < 17592186044415 by omega)]
end Go.Gm
/- Chapter 5 of the document: quads that may be. -/
namespace Go.Gm
set_option linter.unusedVariables false
set_option linter.unusedSimpArgs false
/-- A quad as the program has it. -/
def quadC (L : List Nd) : List AVal := [.sl (enL cNd L) .no]
def quad (L : List Nd) : AVal := .agg (quadC L)
def topLv (L : List Nd) : Int := (ndAt L (L.length : Int)).lv
def orderL (L : List Nd) : List Nat := endF L (topLv L).toNat L.length []
def dupB (L : List Nd) : Bool := (List.range L.length).all fun i => !((empL L).getD (i + 1) true) && (List.range i).all fun k => decide (L.getD i ⟨0, 0, 0, 0, 0⟩ ≠ L.getD k ⟨0, 0, 0, 0, 0⟩)
def orderB (L : List Nd) : Bool := (List.range (orderL L).length).all (fun i => decide ((orderL L).getD i 0 = i + 1)) && decide ((orderL L).length = L.length)
def qrightB (L : List Nd) : Bool :=
  decide (L = []) || (looseB L && !(hollowB L L.length) && dupB L && orderB L)
theorem load_ndA {L : List Nd} {H : AHeap} {i : Nat} (h : i < L.length) : loadA true 5 (.cptr (cNd L[i]) 0) H = some (.agg (cNd L[i])) := (rfl)
theorem boxQuad (L : List Nd) (tk : Tok) (H : AHeap) : boxA true 1 (.agg [.sl (enL cNd L) tk]) H = some (.ptr H.length 0 0, H ++ [.cel 0 [.sl (enL cNd L) tk]]) := box_agg rfl rfl
theorem q05_right (L : List Nd) (tk : Tok) (H : AHeap) (hL : L.length < 17592186044415) : Sh.gliderref05_Right (.agg [.sl (enL cNd L) tk]) H = some (.ret (.bool (qrightB L)), H) := by
  unfold Sh.gliderref05_Right
  simp only [GMb, joinPt, decide_true, decide_false, if_true, if_false, fieldAddr_cptr, fieldAddr_ptr, load_cptr, Nat.zero_add, Nat.add_zero, Nat.mul_one, cNd_0, boxQuad, load_app0, load_zero, List.getElem?_cons_zero, len_enL]
  by_cases h0 : L = []
  · subst h0; simp [qrightB]
  · have hlen : L.length ≠ 0 := fun h => h0 (List.eq_nil_of_length_eq_zero h)
    have h0' : ¬ ((L.length : Int) = 0) := by omega
    have hq : qrightB L = (looseB L && !(hollowB L L.length) && dupB L && orderB L) := by simp [qrightB, h0]
    simp only [GMb, joinPt, decide_true, decide_false, if_true, if_false, h0', q05_loose L tk _ (show L.length < 1152921504606846976 by omega)]
    cases hl : looseB L with
    | false => simp [hq, hl]
    | true =>
      simp only [GMb, joinPt, decide_true, decide_false, if_true, if_false, len_enL, q05_hollow L tk L.length _ (show L.length < 140737488355327 by omega) hl (Nat.le_refl _)]
      cases hh : hollowB L L.length with
      | true => simp [hq, hh]
      | false =>
        simp only [GMb, joinPt, decide_true, decide_false, if_true, if_false, q05_empties L tk _ (show L.length < 140737488355327 by omega) hl]
        rw [hq, hl, hh]
        simp only [GMb, joinPt, decide_true, decide_false, if_true, if_false]
        generalize hB : H ++ [.cel 0 [.sl (enL cNd L) tk]] = B
        have hfin : ∀ (v : Bool) (G : AHeap), rP H (.bool v) (B ++ G) = some (.ret (.bool v), H) := fun v G => by rw [← hB, List.append_assoc]; exact rP_bool
        have hfin0 : ∀ (v : Bool), rP H (.bool v) B = some (.ret (.bool v), H) := fun v => by rw [← hB]; exact rP_bool
        have key := loop_all (G := fun rec1 vs H1 => Sh.gliderref05_Right_l1 H rec1 (ag vs 0) (ag vs 1) (ag vs 2) H1) L.length (fun i => !((empL L).getD (i + 1) true) && (List.range i).all fun k => decide (L.getD i ⟨0, 0, 0, 0, 0⟩ ≠ L.getD k ⟨0, 0, 0, 0, 0⟩))
          (fun i => [.sl (enL cNd L) tk, .sl (enL cB (empL L)) .no, .int .i64 (i : Int)]) B (some (.ret (.bool (orderB L)), H)) (some (.ret (.bool false), H)) (by omega) (fun rec i hi => ?_) (fun rec => ?_)
        · refine key.trans ?_
          rw [show dupB L = (List.range L.length).all fun i => !((empL L).getD (i + 1) true) && (List.range i).all fun k => decide (L.getD i ⟨0, 0, 0, 0, 0⟩ ≠ L.getD k ⟨0, 0, 0, 0, 0⟩) from rfl]
          cases (List.range L.length).all fun i => !((empL L).getD (i + 1) true) && (List.range i).all fun k => decide (L.getD i ⟨0, 0, 0, 0, 0⟩ ≠ L.getD k ⟨0, 0, 0, 0, 0⟩) <;> simp only [GMb, joinPt, decide_true, decide_false, if_true, if_false]
        · have hi' : (i : Int) < (L.length : Int) := by omega
          have hlt : i + 1 < (empL L).length := by rw [empL_len]; omega
          have hws : IntKind.i64.wrap ((i : Int) + 1) = ((i + 1 : Nat) : Int) := wrap_succ (by omega)
          have hgd : (empL L).getD (i + 1) true = (empL L)[i + 1] := by rw [List.getD_eq_getElem?_getD, List.getElem?_eq_getElem hlt]; rfl
          unfold Sh.gliderref05_Right_l1
          simp only [GMb, joinPt, decide_true, decide_false, if_true, if_false, fieldAddr_cptr, fieldAddr_ptr, load_cptr, Nat.zero_add, Nat.add_zero, Nat.mul_one, cNd_0, len_enL, hi', hws, idx_enL hlt, List.getElem?_cons_zero, hgd]
          cases (empL L)[i + 1] with
          | true => simp only [GMb, joinPt, decide_true, decide_false, if_true, if_false, hfin0]
          | false =>
            simp only [GMb, joinPt, decide_true, decide_false, if_true, if_false]
            refine loop_all (G := fun rec2 vs H1 => Sh.gliderref05_Right_l2 H rec rec2 (ag vs 0) (ag vs 1) (ag vs 2) (ag vs 3) H1) i (fun k => decide (L.getD i ⟨0, 0, 0, 0, 0⟩ ≠ L.getD k ⟨0, 0, 0, 0, 0⟩))
              (fun k => [.sl (enL cNd L) tk, .sl (enL cB (empL L)) .no, .int .i64 (i : Int), .int .i64 (k : Int)]) B _ _ (by omega) (fun rec2 k hk => ?_) (fun rec2 => ?_)
            · have hk' : (k : Int) < (i : Int) := by omega
              have hkl : k < L.length := by omega
              unfold Sh.gliderref05_Right_l2
              simp only [GMb, joinPt, decide_true, decide_false, if_true, if_false, hk', idx_enL hi, idx_enL hkl, load_nd, eq_nd, hfin0, wrap_succ (show k < 9223372036854775807 by omega)]
              simp only [List.getD_eq_getElem?_getD, List.getElem?_eq_getElem hi, List.getElem?_eq_getElem hkl, Option.getD_some]
              by_cases he : L[i] = L[k]
              · simp only [he, ne_eq, not_true_eq_false, GMb, joinPt, decide_true, decide_false, if_true, if_false]
              · simp only [he, ne_eq, not_false_eq_true, GMb, joinPt, decide_true, decide_false, if_true, if_false]
            · unfold Sh.gliderref05_Right_l2
              simp only [GMb, joinPt, decide_true, decide_false, if_true, if_false, Int.lt_irrefl, hws]
        · unfold Sh.gliderref05_Right_l1
          have hm : L.length - 1 < L.length := by omega
          have hlm : L.length = L.length - 1 + 1 := by omega
          have hlv : (ndAt L (L.length : Int)).lv = ((topLv L).toNat : Int) := by
            have := (loose_get hl hm).1
            unfold topLv
            rw [hlm, ndAt_nat hm]; omega
          have hend : Sh.gliderref05_end FUEL (.sl (enL cNd L) tk) (.int .i64 (L.length : Int)) (.sl [] .tight) B = some (.ret (outS cN B (endF L (topLv L).toNat L.length [])), outT cN ty_int 1 B (endF L (topLv L).toNat L.length [])) := q05_end tk B hL hl (topLv L).toNat L.length FUEL [] (by omega) (Nat.le_refl _) hlv (by
            have := (loose_get hl hm).2.1
            rw [fuel_val]
            unfold topLv
            rw [hlm, ndAt_nat hm]; omega) ⟨by simp, by simp⟩
          have hok := (endF_ok hl (topLv L).toNat L.length [] (by omega) (Nat.le_refl _) ⟨by simp, by simp⟩).1
          have hol := nodup_len _ _ hok
          obtain ⟨G, hG⟩ := outT_eq (f := cN) (ty := ty_int) (sz := 1) B (endF L (topLv L).toNat L.length [])
          simp only [GMb, joinPt, decide_true, decide_false, if_true, if_false, len_enL, Int.lt_irrefl, hend, hG, outS_eq]
          have hsame : orderL L = endF L (topLv L).toNat L.length [] := rfl
          rw [← hsame] at hol ⊢
          unfold orderB
          generalize orderL L = o at hol ⊢
          have key := loop_all (G := fun rec3 vs H1 => Sh.gliderref05_Right_l3 H rec3 (ag vs 0) (ag vs 1) (ag vs 2) H1) o.length (fun i => decide (o.getD i 0 = i + 1)) (fun i => [.sl (enL cNd L) tk, .sl (enL cN o) (outK B o), .int .i64 (i : Int)]) (B ++ G) (some (.ret (.bool (decide (o.length = L.length))), H)) (some (.ret (.bool false), H)) (by omega) (fun rec i hi => ?_) (fun rec => ?_)
          · refine key.trans ?_
            cases (List.range o.length).all (fun i => decide (o.getD i 0 = i + 1)) <;> simp only [GMb, joinPt, decide_true, decide_false, if_true, if_false]
          · have hi' : (i : Int) < (o.length : Int) := by omega
            unfold Sh.gliderref05_Right_l3
            simp only [GMb, joinPt, decide_true, decide_false, if_true, if_false, fieldAddr_cptr, fieldAddr_ptr, load_cptr, Nat.zero_add, Nat.add_zero, Nat.mul_one, cNd_0, len_enL, hi', idx_enL hi, List.getElem?_cons_zero, wrap_succ (show i < 9223372036854775807 by omega), hfin]
            simp only [List.getD_eq_getElem?_getD, List.getElem?_eq_getElem hi, Option.getD_some]
            by_cases he : o[i] = i + 1
            · have : (o[i] : Int) = ((i + 1 : Nat) : Int) := by omega
              simp only [decide_eq_true this, decide_eq_true he, GMb, joinPt, decide_true, decide_false, if_true, if_false]
            · have : ¬ (o[i] : Int) = ((i + 1 : Nat) : Int) := by omega
              simp only [decide_eq_false this, decide_eq_false he, GMb, joinPt, decide_true, decide_false, if_true, if_false]
          · have hd : decide ((o.length : Int) = (L.length : Int)) = decide (o.length = L.length) := by rw [Bool.eq_iff_iff]; simp; omega
            unfold Sh.gliderref05_Right_l3
            simp only [GMb, joinPt, decide_true, decide_false, if_true, if_false, len_enL, Int.lt_irrefl, hfin, hd]
theorem q05_level (L : List Nd) (tk : Tok) (H : AHeap) (hL : L.length < 17592186044415) : Sh.gliderref05_Level (.agg [.sl (enL cNd L) tk]) H = some (.ret (.int .i64 (if L = [] then 0 else topLv L)), H) := by
  unfold Sh.gliderref05_Level
  simp only [GMb, joinPt, decide_true, decide_false, if_true, if_false, fieldAddr_cptr, fieldAddr_ptr, load_cptr, Nat.zero_add, Nat.add_zero, Nat.mul_one, cNd_0, boxQuad, load_app0, load_zero, List.getElem?_cons_zero, len_enL]
  by_cases h0 : L = []
  · subst h0; simp
  · have hlen : L.length ≠ 0 := fun h => h0 (List.eq_nil_of_length_eq_zero h)
    have h0' : ¬ ((L.length : Int) = 0) := by omega
    have hm : L.length - 1 < L.length := by omega
    have hw : IntKind.i64.wrap ((L.length : Int) - 1) = ((L.length - 1 : Nat) : Int) := wrap_pred (by omega) (by omega)
    have ht : topLv L = L[L.length - 1].lv := by
      unfold topLv
      rw [ndAt_eq (n := L.length - 1) (by omega) hm]
    simp only [h0, h0', GMb, joinPt, decide_true, decide_false, if_true, if_false, fieldAddr_cptr, fieldAddr_ptr, load_cptr, Nat.zero_add, Nat.add_zero, Nat.mul_one, cNd_0, hw, idx_enL hm, rP_int, ht]
end Go.Gm
/- Chapter 6 of the document: shrinking; nodes that are the same. -/
namespace Go.Gm
set_option linter.unusedVariables false
set_option linter.unusedSimpArgs false
abbrev nd0 : Nd := ⟨0, 0, 0, 0, 0⟩
def Nd.setKid (x : Nd) (k : Nat) (c : Int) : Nd := match k with | 0 => { x with k0 := c } | 1 => { x with k1 := c } | 2 => { x with k2 := c } | _ => { x with k3 := c }
theorem setKid_lv (x : Nd) (k : Nat) (c : Int) : (x.setKid k c).lv = x.lv := by unfold Nd.setKid; split <;> rfl
theorem setKid_same (x : Nd) {k : Nat} (c : Int) (h : k < 4) : (x.setKid k c).kid k = c := by
  match k, h with
  | 0, _ => rfl
  | 1, _ => rfl
  | 2, _ => rfl
  | 3, _ => rfl
theorem setKid_other (x : Nd) {k j : Nat} (c : Int) (h : k < 4) (hj : j < 4) (hne : j ≠ k) : (x.setKid k c).kid j = x.kid j := by
  match k, j, h, hj with
  | 0, 1, _, _ => rfl
  | 0, 2, _, _ => rfl
  | 0, 3, _, _ => rfl
  | 1, 0, _, _ => rfl
  | 1, 2, _, _ => rfl
  | 1, 3, _, _ => rfl
  | 2, 0, _, _ => rfl
  | 2, 1, _, _ => rfl
  | 2, 3, _, _ => rfl
  | 3, 0, _, _ => rfl
  | 3, 1, _, _ => rfl
  | 3, 2, _, _ => rfl
  | 0, 0, _, _ => exact absurd rfl hne
  | 1, 1, _, _ => exact absurd rfl hne
  | 2, 2, _, _ => exact absurd rfl hne
  | 3, 3, _, _ => exact absurd rfl hne
section
variable {H : AHeap} {p k : Nat} {x : Nd} {cs cs' : List AVal}
theorem get_cel (hg : H[p]? = some (.cel 0 cs)) : getCells H p 0 = some cs := by simp [getCells, hg]
theorem setC_cel (hg : H[p]? = some (.cel 0 cs)) : setC H p 0 cs' = H.set p (.cel 0 cs') := by simp [setC, hg]
theorem load_ndP (hg : H[p]? = some (.cel 0 (cNd x))) : loadA true 5 (.ptr p 0 0) H = some (.agg (cNd x)) := by
  simp only [loadA, get_cel hg, Option.bind_some, if_true]; rfl
theorem load_lvP (hg : H[p]? = some (.cel 0 (cNd x))) : loadA false 1 (.ptr p 0 0) H = some (.int .i64 x.lv) := by
  simp only [loadA, get_cel hg, Option.bind_some, Bool.false_eq_true, if_false]; rfl
theorem load_kidP (hg : H[p]? = some (.cel 0 (cNd x))) (h : k < 4) : loadA false 1 (.ptr p 0 (1 + k)) H = some (.int .i64 (x.kid k)) := by
  simp only [loadA, get_cel hg, Option.bind_some, Bool.false_eq_true, if_false]; exact cNd_kid h
theorem store_kidP {c : Int} (hg : H[p]? = some (.cel 0 (cNd x))) (h : k < 4) : storeA 1 (.ptr p 0 (1 + k)) (.int .i64 c) H = some (H.set p (.cel 0 (cNd (x.setKid k c)))) := by
  simp only [storeA, get_cel hg, Option.bind_some, acells_int, setC_cel hg]
  match k, h with
  | 0, _ => rfl
  | 1, _ => rfl
  | 2, _ => rfl
  | 3, _ => rfl
theorem store_ndP (hg : H[p]? = some (.cel 0 cs)) (hl : cs.length = 5) : storeA 5 (.ptr p 0 0) (.agg (cNd x)) H = some (H.set p (.cel 0 (cNd x))) := by
  simp only [storeA, get_cel hg, Option.bind_some, acells_nd, setC_cel hg, putN_all hl]
  rw [if_pos ⟨rfl, by omega⟩]
theorem idx_kidP {K : IntKind} {id g o : Nat} (h : k < 4) : idxArr 4 1 (.ptr id g o) (.int K (k : Int)) = some (.ptr id g (o + k)) := by
  unfold idxArr
  simp only []
  rw [if_pos ⟨by omega, by omega⟩]; simp
theorem last_cel {B : AHeap} : (B ++ [Blk.cel 0 cs])[B.length]? = some (.cel 0 cs) := by simp
theorem last_set {B : AHeap} {b b' : Blk} : (B ++ [b]).set B.length b' = B ++ [b'] := by simp
end
theorem alloc_nd (H : AHeap) : allocA (some [.int .i64 0, .int .i64 0, .int .i64 0, .int .i64 0, .int .i64 0]) H = some (.ptr H.length 0 0, H ++ [.cel 0 (cNd nd0)]) := alloc_eq rfl
theorem emp_zero (L : List Nd) : (empL L).getD 0 true = true := by
  have key : ∀ (l : List Nd) (E : List Bool), E[0]? = some true → (l.foldl (fun E x => E ++ [empS E x]) E)[0]? = some true := by
    intro l
    induction l with
    | nil => intro E h; exact h
    | cons a l ih => intro E h; exact ih _ (by rw [List.getElem?_append_left (by cases E with | nil => simp at h | cons e E => simp)]; exact h)
  rw [List.getD_eq_getElem?_getD, show (empL L)[0]? = some true from key L [true] rfl]; rfl
/-- The kid of the k-th quarter that touches the middle. -/
def innK (L : List Nd) (x : Nd) (k : Nat) : Int := if x.kid k = 0 then 0 else (ndAt L (x.kid k)).kid (3 - k)
def innNd (L : List Nd) (n : Nat) : Nd := ⟨(ndAt L n).lv - 1, innK L (ndAt L n) 0, innK L (ndAt L n) 1, innK L (ndAt L n) 2, innK L (ndAt L n) 3⟩
def shrinkF : Nat → List Nd → Nat → List Nd × Nat
  | 0, L, n => (L, n)
  | f + 1, L, n => if hollowB L n then shrinkF f (L ++ [innNd L n]) (L.length + 1) else (L, n)
def shrink (L : List Nd) (n : Nat) : List Nd × Nat :=
  if (empL L).getD n true then (L, 0) else shrinkF (ndAt L n).lv.toNat L n
theorem innNd_kid (L : List Nd) (n : Nat) {k : Nat} (h : k < 4) : (innNd L n).kid k = innK L (ndAt L n) k := by
  match k, h with
  | 0, _ => rfl
  | 1, _ => rfl
  | 2, _ => rfl
  | 3, _ => rfl
theorem loose_snoc {L : List Nd} {x : Nd} (hl : looseB L = true) (hx : ndOk (L ++ [x]) L.length = true) : looseB (L ++ [x]) = true := by
  unfold looseB
  rw [List.all_eq_true]
  intro i hi
  have hi' : i < L.length + 1 := by simpa using hi
  by_cases h : i = L.length
  · rw [h]; exact hx
  · have hlt : i < L.length := by omega
    have h1 := List.all_eq_true.1 hl i (by simpa using hlt)
    simp only [ndOk, List.getElem?_append_left hlt, List.getElem?_eq_getElem hlt, Bool.and_eq_true, List.all_eq_true] at h1 ⊢
    refine ⟨h1.1, fun k hk => ?_⟩
    have h2 := h1.2 k hk
    simp only [kidOk, Bool.and_eq_true, decide_eq_true_eq] at h2 ⊢
    refine ⟨h2.1, fun q1 q2 => ?_⟩
    obtain ⟨r1, r2⟩ := h2.2 q1 q2
    refine ⟨r1, fun y hy => ?_⟩
    rw [List.getElem?_append_left (by omega)] at hy
    exact r2 y hy
theorem loose_ndOk {L : List Nd} {x : Nd} (h1 : 1 ≤ x.lv) (h2 : x.lv ≤ 1329) (h3 : ∀ k, k < 4 → 0 ≤ x.kid k ∧ (x.lv = 1 → x.kid k ≤ 255) ∧ (1 < x.lv → 0 < x.kid k → x.kid k ≤ L.length ∧ (ndAt L (x.kid k)).lv = x.lv - 1)) : ndOk (L ++ [x]) L.length = true := by
  simp only [ndOk, List.getElem?_append_right (Nat.le_refl _), Nat.sub_self, List.getElem?_cons_zero, Bool.and_eq_true, decide_eq_true_eq, List.all_eq_true]
  refine ⟨⟨h1, h2⟩, fun k hk => ?_⟩
  obtain ⟨q1, q2, q3⟩ := h3 k (by simpa using hk)
  simp only [kidOk, Bool.and_eq_true, decide_eq_true_eq]
  refine ⟨⟨q1, q2⟩, fun r1 r2 => ?_⟩
  obtain ⟨s1, s2⟩ := q3 r1 r2
  refine ⟨s1, fun y hy => ?_⟩
  have hlt : (x.kid k - 1).toNat < L.length := by omega
  rw [List.getElem?_append_left hlt, List.getElem?_eq_getElem hlt] at hy
  injection hy with hy
  rw [← hy, ← s2, ndAt_eq (n := (x.kid k - 1).toNat) (by omega) hlt]
theorem inn_loose {L : List Nd} (hl : looseB L = true) {n : Nat} (hn : n < L.length) (h2 : 2 ≤ L[n].lv) : looseB (L ++ [innNd L (n + 1)]) = true := by
  obtain ⟨l1, l2, l3⟩ := loose_get hl hn
  have e : ndAt L ((n + 1 : Nat) : Int) = L[n] := ndAt_nat hn
  have elv : (innNd L (n + 1)).lv = L[n].lv - 1 := by show (ndAt L ((n + 1 : Nat) : Int)).lv - 1 = _; rw [e]
  refine loose_snoc hl (loose_ndOk (by omega) (by omega) fun k hk => ?_)
  obtain ⟨q1, q2, q3⟩ := l3 k hk
  rw [innNd_kid L (n + 1) hk, elv, e]
  unfold innK
  by_cases hc : L[n].kid k = 0
  · rw [if_pos hc]; exact ⟨by omega, fun _ => by omega, fun _ h => by omega⟩
  · rw [if_neg hc]
    obtain ⟨m, hm⟩ : ∃ m : Nat, L[n].kid k = ((m + 1 : Nat) : Int) := ⟨(L[n].kid k - 1).toNat, by omega⟩
    obtain ⟨r1, r2⟩ := q3 (by omega) (by omega)
    have hml : m < L.length := by omega
    have hy := r2 L[m] (by rw [show (L[n].kid k - 1).toNat = m from by omega]; exact List.getElem?_eq_getElem hml)
    obtain ⟨y1, y2, y3⟩ := loose_get hl hml
    rw [ndAt_eq hm hml]
    obtain ⟨s1, s2, s3⟩ := y3 (3 - k) (by omega)
    refine ⟨s1, fun h => s2 (by omega), fun h h0 => ?_⟩
    obtain ⟨t1, t2⟩ := s3 (by omega) h0
    refine ⟨by omega, ?_⟩
    obtain ⟨c, hc'⟩ : ∃ c : Nat, L[m].kid (3 - k) = ((c + 1 : Nat) : Int) := ⟨(L[m].kid (3 - k) - 1).toNat, by omega⟩
    have hcl : c < L.length := by omega
    rw [ndAt_eq hc' hcl]
    have := t2 L[c] (by rw [show (L[m].kid (3 - k) - 1).toNat = c from by omega]; exact List.getElem?_eq_getElem hcl)
    omega
theorem hollow_lv {L : List Nd} {n : Nat} (h : hollowB L n = true) : n ≠ 0 ∧ 2 ≤ (ndAt L n).lv := by
  simp only [hollowB, Bool.and_eq_true, decide_eq_true_eq] at h
  exact ⟨h.1.1, h.1.2⟩
theorem append_nd {H G : AHeap} {l : List Nd} {x : Nd} (h : l.length < 3518437208883) : appendA ty_api_Node 5 40 (.sl (enL cNd l) (.own H.length)) (.sl (enL cNd [x]) .tight) (H ++ .tok l.length ty_api_Node 5 :: G) = some (.sl (enL cNd (l ++ [x])) (.own H.length), H ++ .tok (l.length + 1) ty_api_Node 5 :: G) := by
  have := append_own (f := cNd) (l := l) (m := [x]) (ty := ty_api_Node) (bytes := 40) (tk := .tight) (H := H ++ .tok l.length ty_api_Node 5 :: G) (t := H.length) (by simp) (by simp) (by simp; omega) (by simp; omega)
  rw [this]; simp
def setKs (f : Nat → Int) (x : Nd) : Nat → Nd
  | 0 => x
  | k + 1 => (setKs f x k).setKid k (f k)
theorem setKs_all (f : Nat → Int) (x : Nd) : setKs f x 4 = ⟨x.lv, f 0, f 1, f 2, f 3⟩ := rfl
theorem build_lv (z : Int) : buildA (some [.int .i64 0, .int .i64 0, .int .i64 0, .int .i64 0, .int .i64 0]) [(0, 1, .int .i64 z)] = some (.agg (cNd ⟨z, 0, 0, 0, 0⟩)) := by
  simp [buildA, fillA, putN, cNd]
theorem q06_shrink (L : List Nd) (tk : Tok) (n : Nat) (H : AHeap) (hL : L.length < 3518437200000) (hl : looseB L = true) (hn : n ≤ L.length) :
    Sh.gliderref06_Shrink (.sl (enL cNd L) tk) (.int .i64 (n : Int)) H = some (.ret (.tup [.sl (enL cNd (shrink L n).1) .no, .int .i64 ((shrink L n).2 : Int)]), H) := by
  unfold Sh.gliderref06_Shrink
  have hb : buildSl 5 [] = some (.sl (enL cNd []) .tight) := rfl
  rw [hb]
  by_cases h0 : L = []
  · subst h0
    have hn0 : n = 0 := by simpa using hn
    subst hn0
    have ha : appendA ty_api_Node 5 40 (.sl (enL cNd []) .tight) (.sl (enL cNd []) tk) H = some (.sl (enL cNd []) .tight, H) := append_nothing (by simp [elemsA, enL])
    have he := q05_empty [] .tight 0 H (by simp) hl (Nat.le_refl _)
    simp only [GMb, joinPt, decide_true, decide_false, if_true, if_false, ha, he, show (empL []).getD 0 true = true from rfl, rPN_self, fall_tup, fparts_cons, fparts_nil, fpart_sl, fpart_int, Option.map_some]
    rfl
  · have ha : appendA ty_api_Node 5 40 (.sl (enL cNd []) .tight) (.sl (enL cNd L) tk) H = some (.sl (enL cNd L) (.own H.length), H ++ [.tok L.length ty_api_Node 5]) := by
      have := append_tight (f := cNd) (l := []) (m := L) (ty := ty_api_Node) (bytes := 40) (tk := tk) (H := H) h0 (by simp; omega) (by simp; omega)
      simpa using this
    simp only [GMb, joinPt, decide_true, decide_false, if_true, if_false, ha, q05_empty L _ n _ (show L.length < 140737488355327 by omega) hl hn]
    unfold shrink
    cases hem : (empL L).getD n true with
    | true => simp only [GMb, joinPt, decide_true, decide_false, if_true, if_false, rPN_app, fall_tup, fparts_cons, fparts_nil, fpart_sl, fpart_int, Option.map_some]; rfl
    | false =>
      simp only [GMb, joinPt, decide_true, decide_false, if_true, if_false]
      have hlv : (ndAt L n).lv ≤ 1329 := by
        cases n with
        | zero => exfalso; rw [emp_zero] at hem; cases hem
        | succ m => rw [ndAt_nat hn]; exact (loose_get hl hn).2.1
      have key := loop_fun (G := fun rec1 vs H1 => Sh.gliderref06_Shrink_l1 H rec1 (ag vs 0) (ag vs 1) H1) (σ := List Nd × Nat × AHeap) (fun s => looseB s.1 = true ∧ s.2.1 ≤ s.1.length ∧ s.1.length + (ndAt s.1 s.2.1).lv.toNat < 3518437208883 ∧ s.1.length + (ndAt s.1 s.2.1).lv.toNat < 3518437208883)
        (fun s => [.int .i64 (s.2.1 : Int), .sl (enL cNd s.1) (.own H.length)]) (fun s => H ++ .tok s.1.length ty_api_Node 5 :: s.2.2) (fun s => (ndAt s.1 s.2.1).lv.toNat)
        (fun s => some (.ret (.tup [.sl (enL cNd (shrinkF (ndAt s.1 s.2.1).lv.toNat s.1 s.2.1).1) .no, .int .i64 ((shrinkF (ndAt s.1 s.2.1).lv.toNat s.1 s.2.1).2 : Int)]), H)) (fun s rec hs hrec => ?_) (L, n, []) ⟨hl, hn, by dsimp only; omega, by dsimp only; omega⟩ (by dsimp only; omega)
      · exact key
      · obtain ⟨M, i, G⟩ := s
        obtain ⟨hs1, hs2, hs3, hs4⟩ := hs
        simp only at hs1 hs2 hs3 hs4 hrec ⊢
        unfold Sh.gliderref06_Shrink_l1
        simp only [GMb, joinPt, decide_true, decide_false, if_true, if_false, q05_hollow M _ i _ (show M.length < 140737488355327 by omega) hs1 hs2]
        cases hh : hollowB M i with
        | false =>
          have : shrinkF (ndAt M i).lv.toNat M i = (M, i) := by
            cases (ndAt M i).lv.toNat with
            | zero => rfl
            | succ f => simp [shrinkF, hh]
          simp only [GMb, joinPt, decide_true, decide_false, if_true, if_false, this, rPN_app, fall_tup, fparts_cons, fparts_nil, fpart_sl, fpart_int, Option.map_some]
        | true =>
          obtain ⟨hi0, hlv2⟩ := hollow_lv hh
          obtain ⟨m, rfl⟩ : ∃ m, i = m + 1 := ⟨i - 1, by omega⟩
          have hm : m < M.length := hs2
          obtain ⟨l1, l2, l3⟩ := loose_get hs1 hm
          have hx : ndAt M ((m + 1 : Nat) : Int) = M[m] := ndAt_nat hm
          rw [hx] at hlv2 hs3 hrec ⊢
          have hwm : IntKind.i64.wrap (((m + 1 : Nat) : Int) - 1) = (m : Int) := by rw [wrap_i64] <;> omega
          have hwl : IntKind.i64.wrap (M[m].lv - 1) = M[m].lv - 1 := wrap_i64 (by omega) (by omega)
          have hsf : shrinkF M[m].lv.toNat M (m + 1) = shrinkF (M[m].lv - 1).toNat (M ++ [innNd M (m + 1)]) (M.length + 1) := by
            rw [show M[m].lv.toNat = (M[m].lv - 1).toNat + 1 from by omega]
            simp only [shrinkF, hh, if_true]
          generalize hB : H ++ .tok M.length ty_api_Node 5 :: G = B
          simp only [GMb, joinPt, decide_true, decide_false, if_true, if_false, fieldAddr_cptr, fieldAddr_ptr, load_cptr, Nat.zero_add, Nat.add_zero, Nat.mul_one, cNd_0, hwm, idx_enL hm, hwl, build_lv, alloc_nd, store_ndP (last_cel (B := B) (cs := cNd nd0)) rfl, last_set]
          refine loop_up (G := fun rec2 vs H1 => Sh.gliderref06_Shrink_l2 H rec rec2 (ag vs 0) (ag vs 1) (ag vs 2) (ag vs 3) H1) 4 (fun k => [.int .i64 ((m + 1 : Nat) : Int), .sl (enL cNd M) (.own H.length), .ptr B.length 0 0, .int .i64 (k : Int)]) (fun k => B ++ [.cel 0 (cNd (setKs (innK M M[m]) ⟨M[m].lv - 1, 0, 0, 0, 0⟩ k))]) _ (by decide) (fun rec2 k hk => ?_) (fun rec2 => ?_)
          · have hk' : (k : Int) < 4 := by omega
            unfold Sh.gliderref06_Shrink_l2
            have hinn := q05_inner M (.own H.length) m k (B ++ [.cel 0 (cNd (setKs (innK M M[m]) ⟨M[m].lv - 1, 0, 0, 0, 0⟩ k))]) (by omega) hs1 hm hlv2 hk
            simp only [GMb, joinPt, decide_true, decide_false, if_true, if_false, hk', hinn, fieldAddr_ptr, Nat.zero_add, idx_kidP hk, store_kidP (last_cel (B := B)) hk, last_set, wrap_succ (show k < 9223372036854775807 by omega)]
            rfl
          · have hf : ¬ (((4 : Nat) : Int) < 4) := by decide
            have hel : (⟨M[m].lv - 1, innK M M[m] 0, innK M M[m] 1, innK M M[m] 2, innK M M[m] 3⟩ : Nd) = innNd M (m + 1) := by unfold innNd; rw [hx]
            unfold Sh.gliderref06_Shrink_l2
            rw [setKs_all]
            simp only [GMb, joinPt, decide_true, decide_false, if_true, if_false, hf, load_ndP (last_cel (B := B)), build_nd]
            rw [← hB, List.append_assoc, List.cons_append, append_nd (by omega)]
            simp only [GMb, joinPt, decide_true, decide_false, if_true, if_false, len_enL, List.length_append, List.length_singleton, hel]
            have hlv' : (ndAt (M ++ [innNd M (m + 1)]) ((M.length + 1 : Nat) : Int)).lv = M[m].lv - 1 := by
              rw [ndAt_nat (by simp), show (M ++ [innNd M (m + 1)])[M.length]'(by simp) = innNd M (m + 1) from by simp]
              show (ndAt M ((m + 1 : Nat) : Int)).lv - 1 = _
              rw [hx]
            have := hrec (M ++ [innNd M (m + 1)], M.length + 1, G ++ [.cel 0 (cNd (innNd M (m + 1)))]) ⟨inn_loose hs1 hm hlv2, by simp, by dsimp only; rw [hlv']; simp; omega, by dsimp only; rw [hlv']; simp; omega⟩ (by dsimp only; rw [hlv']; omega)
            simp only [List.length_append, List.length_singleton] at this
            rw [this, hlv', hsf]
end Go.Gm
/- Chapter 6 of the document: each node once. The maths of it. -/
namespace Go.Gm
set_option linter.unusedVariables false
set_option linter.unusedSimpArgs false
/-- The number of a node that is the same; 0: there is none. -/
def findN (l : List Nd) (x : Nd) : Nat := match (List.range l.length).find? (fun i => decide (l.getD i nd0 = x)) with | some i => i + 1 | none => 0
theorem findN_some {l : List Nd} {x : Nd} {i : Nat} : findN l x = i + 1 ↔ l[i]? = some x ∧ ∀ j, j < i → l[j]? ≠ some x := by
  unfold findN
  constructor
  · intro h
    cases hf : (List.range l.length).find? (fun i => decide (l.getD i nd0 = x)) with
    | none => rw [hf] at h; dsimp only at h; omega
    | some k =>
      rw [hf] at h; dsimp only at h
      have hk : k = i := by omega
      subst hk
      rw [List.find?_range_eq_some] at hf
      obtain ⟨h1, h2, h3⟩ := hf
      have hlt : k < l.length := by simpa using h2
      simp only [decide_eq_true_eq, List.getD_eq_getElem?_getD, List.getElem?_eq_getElem hlt, Option.getD_some] at h1
      refine ⟨by rw [List.getElem?_eq_getElem hlt, h1], fun j hj e => ?_⟩
      have := h3 j hj
      simp only [List.getD_eq_getElem?_getD, e, Option.getD_some, decide_true, Bool.not_true] at this
      cases this
  · rintro ⟨h1, h2⟩
    have hlt : i < l.length := (List.getElem?_eq_some_iff.1 h1).1
    have hf : (List.range l.length).find? (fun i => decide (l.getD i nd0 = x)) = some i := by
      rw [List.find?_range_eq_some]
      refine ⟨by simp [List.getD_eq_getElem?_getD, h1], by simpa using hlt, fun j hj => ?_⟩
      have hjl : j < l.length := by omega
      have := h2 j hj
      rw [List.getElem?_eq_getElem hjl] at this
      simp only [List.getD_eq_getElem?_getD, List.getElem?_eq_getElem hjl, Option.getD_some, Bool.not_eq_true', decide_eq_false_iff_not]
      exact fun e => this (by rw [e])
    rw [hf]
theorem findN_zero {l : List Nd} {x : Nd} : findN l x = 0 ↔ x ∉ l := by
  constructor
  · intro h hx
    obtain ⟨i, hi, hxi⟩ := List.getElem_of_mem hx
    unfold findN at h
    cases hf : (List.range l.length).find? (fun i => decide (l.getD i nd0 = x)) with
    | none =>
      have := List.find?_eq_none.1 hf i (by simpa using hi)
      simp [List.getD_eq_getElem?_getD, List.getElem?_eq_getElem hi, hxi] at this
    | some k => rw [hf] at h; dsimp only at h; omega
  · intro h
    cases hf : findN l x with
    | zero => rfl
    | succ i =>
      rw [findN_some] at hf
      exact absurd (List.mem_of_getElem? hf.1) h
theorem findN_le (l : List Nd) (x : Nd) : findN l x ≤ l.length := by
  cases hf : findN l x with
  | zero => omega
  | succ i => rw [findN_some] at hf; exact (List.getElem?_eq_some_iff.1 hf.1).1
theorem findN_append {l m : List Nd} {x : Nd} (h : findN l x ≠ 0) : findN (l ++ m) x = findN l x := by
  cases hf : findN l x with
  | zero => exact absurd hf h
  | succ i =>
    rw [findN_some] at hf ⊢
    have hlt : i < l.length := (List.getElem?_eq_some_iff.1 hf.1).1
    refine ⟨by rw [List.getElem?_append_left hlt]; exact hf.1, fun j hj => ?_⟩
    rw [List.getElem?_append_left (by omega)]; exact hf.2 j hj
theorem findN_new {l : List Nd} {x : Nd} (h : findN l x = 0) : findN (l ++ [x]) x = l.length + 1 := by
  rw [findN_some]
  refine ⟨by simp, fun j hj e => ?_⟩
  rw [List.getElem?_append_left hj] at e
  exact findN_zero.1 h (List.mem_of_getElem? e)
/-- A node's number, and it laid if it isn't there. -/
def putN' (out : List Nd) (x : Nd) : List Nd × Nat := if findN out x = 0 then (out ++ [x], out.length + 1) else (out, findN out x)
def insK (rec : Nat → List Nd → List Nd × Nat) (x : Nd) : Nat → List Nd → List Nd × Nd
  | 0, out => (out, x)
  | k + 1, out => ((rec (x.kid k).toNat (insK rec x k out).1).1, (insK rec x k out).2.setKid k ((rec (x.kid k).toNat (insK rec x k out).1).2 : Int))
def insF (L : List Nd) (E : List Bool) : Nat → Nat → List Nd → List Nd × Nat
  | 0, _, out => (out, 0)
  | v + 1, n, out =>
    if E.getD n true then (out, 0)
    else if 1 < (ndAt L n).lv then putN' (insK (insF L E v) (ndAt L n) 4 out).1 (insK (insF L E v) (ndAt L n) 4 out).2
    else putN' out (ndAt L n)
theorem putN_pos (out : List Nd) (x : Nd) : 0 < (putN' out x).2 := by
  unfold putN'
  split
  · simp
  · dsimp only; omega
theorem putN_pre (out : List Nd) (x : Nd) : ∃ r, (putN' out x).1 = out ++ r := by
  unfold putN'
  split
  · exact ⟨_, rfl⟩
  · exact ⟨[], by simp⟩
theorem putN_again (out : List Nd) (x : Nd) (r : List Nd) : putN' ((putN' out x).1 ++ r) x = ((putN' out x).1 ++ r, (putN' out x).2) := by
  by_cases h : findN out x = 0
  · have h1 : putN' out x = (out ++ [x], out.length + 1) := by simp [putN', h]
    rw [h1]
    have h2 : findN (out ++ [x] ++ r) x = out.length + 1 := by rw [findN_append (by rw [findN_new h]; omega), findN_new h]
    dsimp only
    unfold putN'
    rw [h2, if_neg (by omega)]
  · have h1 : putN' out x = (out, findN out x) := by simp [putN', h]
    rw [h1]
    dsimp only
    unfold putN'
    rw [findN_append h, if_neg h]
section
variable {L : List Nd} {E : List Bool}
theorem insK_pre {rec : Nat → List Nd → List Nd × Nat} (hr : ∀ n out, ∃ r, (rec n out).1 = out ++ r) (x : Nd) : ∀ k out, ∃ r, (insK rec x k out).1 = out ++ r
  | 0, out => ⟨[], by simp [insK]⟩
  | k + 1, out => by
    obtain ⟨r, h⟩ := insK_pre hr x k out
    obtain ⟨r', h'⟩ := hr (x.kid k).toNat (insK rec x k out).1
    exact ⟨r ++ r', by simp only [insK]; rw [h', h]; simp⟩
theorem insF_pre : ∀ v n out, ∃ r, (insF L E v n out).1 = out ++ r
  | 0, n, out => ⟨[], by simp [insF]⟩
  | v + 1, n, out => by
    simp only [insF]
    split
    · exact ⟨[], by simp⟩
    · split
      · obtain ⟨r, h⟩ := insK_pre (insF_pre v) (ndAt L n) 4 out
        obtain ⟨r', h'⟩ := putN_pre (insK (insF L E v) (ndAt L n) 4 out).1 (insK (insF L E v) (ndAt L n) 4 out).2
        exact ⟨r ++ r', by rw [h', h]; simp⟩
      · exact putN_pre _ _
theorem insF_zero : ∀ v n out, (insF L E v n out).2 = 0 → ∀ out', insF L E v n out' = (out', 0)
  | 0, n, out, _, out' => rfl
  | v + 1, n, out, h, out' => by
    simp only [insF] at h ⊢
    split
    · rfl
    · rename_i he
      rw [if_neg he] at h
      exfalso
      split at h
      · have := putN_pos (insK (insF L E v) (ndAt L n) 4 out).1 (insK (insF L E v) (ndAt L n) 4 out).2; omega
      · have := putN_pos out (ndAt L n); omega
/-- Once laid, nothing more is laid. -/
theorem insF_again : ∀ v n out r, insF L E v n ((insF L E v n out).1 ++ r) = ((insF L E v n out).1 ++ r, (insF L E v n out).2)
  | 0, n, out, r => by simp [insF]
  | v + 1, n, out, r => by
    by_cases he : E.getD n true = true
    · simp only [insF, if_pos he]
    · by_cases hl : 1 < (ndAt L n).lv
      · have e : ∀ o, insF L E (v + 1) n o = putN' (insK (insF L E v) (ndAt L n) 4 o).1 (insK (insF L E v) (ndAt L n) 4 o).2 := fun o => by simp only [insF, if_neg he, if_pos hl]
        have key : ∀ k, k ≤ 4 → ∀ s, insK (insF L E v) (ndAt L n) k ((insK (insF L E v) (ndAt L n) k out).1 ++ s) = ((insK (insF L E v) (ndAt L n) k out).1 ++ s, (insK (insF L E v) (ndAt L n) k out).2) := by
          intro k
          induction k with
          | zero => intro _ s; simp [insK]
          | succ k ih =>
            intro hk s
            simp only [insK]
            obtain ⟨r', h'⟩ := insF_pre (L := L) (E := E) v ((ndAt L n).kid k).toNat (insK (insF L E v) (ndAt L n) k out).1
            have hi := ih (by omega) (r' ++ s)
            have ha := insF_again v ((ndAt L n).kid k).toNat (insK (insF L E v) (ndAt L n) k out).1 s
            rw [h'] at ha ⊢
            rw [List.append_assoc, hi]
            rw [List.append_assoc] at ha
            dsimp only
            rw [ha]
        obtain ⟨r', h'⟩ := putN_pre (insK (insF L E v) (ndAt L n) 4 out).1 (insK (insF L E v) (ndAt L n) 4 out).2
        have ha := putN_again (insK (insF L E v) (ndAt L n) 4 out).1 (insK (insF L E v) (ndAt L n) 4 out).2 r
        rw [e, e]
        rw [h'] at ha ⊢
        rw [List.append_assoc, key 4 (by omega)]
        dsimp only
        rw [List.append_assoc] at ha
        exact ha
      · have e : ∀ o, insF L E (v + 1) n o = putN' o (ndAt L n) := fun o => by simp only [insF, if_neg he, if_neg hl]
        rw [e, e]; exact putN_again out (ndAt L n) r
end
end Go.Gm
/- Chapter 6 of the document: each node once. -/
namespace Go.Gm
set_option linter.unusedVariables false
set_option linter.unusedSimpArgs false
theorem q06_find (l : List Nd) (tk : Tok) (x : Nd) (H : AHeap) (hl : l.length < 1152921504606846975) : Sh.gliderref06_find (.sl (enL cNd l) tk) (.agg (cNd x)) H = some (.ret (.int .i64 (findN l x : Int)), H) := by
  unfold Sh.gliderref06_find
  rw [box_agg (sz := 5) cNd_scal rfl]
  simp only [GMb, joinPt, decide_true, decide_false, if_true, if_false]
  have hp : (H ++ [Blk.cel 0 (cNd x)])[H.length]? = some (.cel 0 (cNd x)) := last_cel
  have key := loop_first (G := fun rec1 vs H1 => Sh.gliderref06_find_l1 H rec1 (ag vs 0) (ag vs 1) (ag vs 2) H1) l.length (fun i => decide (l.getD i nd0 = x)) (fun i => [.sl (enL cNd l) tk, .ptr H.length 0 0, .int .i64 (i : Int)]) (H ++ [.cel 0 (cNd x)])
    (some (.ret (.int .i64 0), H)) (fun i => some (.ret (.int .i64 ((i + 1 : Nat) : Int)), H)) (by omega) (fun rec i hi => ?_) (fun rec => ?_)
  · refine key.trans ?_
    unfold findN
    cases (List.range l.length).find? (fun i => decide (l.getD i nd0 = x)) <;> rfl
  · have hi' : (i : Int) < (l.length : Int) := by omega
    unfold Sh.gliderref06_find_l1
    simp only [GMb, joinPt, decide_true, decide_false, if_true, if_false, len_enL, hi', idx_enL hi, load_nd, load_ndP hp, eq_nd, wrap_succ (show i < 9223372036854775807 by omega), rP_int]
    simp only [List.getD_eq_getElem?_getD, List.getElem?_eq_getElem hi, Option.getD_some]
    by_cases he : l[i] = x
    · simp only [he, GMb, joinPt, decide_true, decide_false, if_true, if_false]
    · simp only [he, GMb, joinPt, decide_true, decide_false, if_true, if_false]
  · unfold Sh.gliderref06_find_l1
    simp only [GMb, joinPt, decide_true, decide_false, if_true, if_false, len_enL, Int.lt_irrefl, rP_int]
/-- The rows that are grown, and the numbers that are told, in a heap. -/
structure VS (b id : Nat) (out : List Nd) (D : List Nat) (v : AVal) (H : AHeap) : Prop where
  hv : (out = [] ∧ v = .sl [] .tight) ∨ ∃ t, b ≤ t ∧ v = .sl (enL cNd out) (.own t) ∧ H[t]? = some (.tok out.length ty_api_Node 5)
  hd : H[id]? = some (.cel 0 (flat cN D))
structure Ext (b id : Nat) (H H' : AHeap) : Prop where
  len : H.length ≤ H'.length
  cel : ∀ (i : Nat) (cs : List AVal), i ≠ id → H[i]? = some (.cel 0 cs) → H'[i]? = some (.cel 0 cs)
  old : ∀ i, i < b → H'[i]? = H[i]?
theorem Ext.refl (b id : Nat) (H : AHeap) : Ext b id H H := ⟨Nat.le_refl _, fun _ _ _ h => h, fun _ _ => rfl⟩
theorem Ext.trans {b id : Nat} {H H1 H2 : AHeap} (h : Ext b id H H1) (h' : Ext b id H1 H2) : Ext b id H H2 :=
  ⟨Nat.le_trans h.len h'.len, fun i cs hi hc => h'.cel i cs hi (h.cel i cs hi hc), fun i hi => (h'.old i hi).trans (h.old i hi)⟩
theorem VS.sl {b id : Nat} {out : List Nd} {D : List Nat} {v : AVal} {H : AHeap} (h : VS b id out D v H) : ∃ tk, v = .sl (enL cNd out) tk := by
  rcases h.hv with ⟨rfl, rfl⟩ | ⟨t, _, rfl, _⟩
  · exact ⟨_, rfl⟩
  · exact ⟨_, rfl⟩
theorem get_snoc {H : AHeap} {i : Nat} {x : Blk} (B : Blk) (h : H[i]? = some x) : (H ++ [B])[i]? = some x := by
  have := (List.getElem?_eq_some_iff.1 h).1
  rw [List.getElem?_append_left this]; exact h
theorem VS.snoc {b id : Nat} {out : List Nd} {D : List Nat} {v : AVal} {H : AHeap} (h : VS b id out D v H) (B : Blk) : VS b id out D v (H ++ [B]) := by
  refine ⟨?_, get_snoc B h.hd⟩
  rcases h.hv with h1 | ⟨t, h1, h2, h3⟩
  · exact .inl h1
  · exact .inr ⟨t, h1, h2, get_snoc B h3⟩
theorem Ext.snoc {b id : Nat} {H : AHeap} (hb : b ≤ H.length) (B : Blk) : Ext b id H (H ++ [B]) :=
  ⟨by simp, fun i cs _ h => get_snoc B h, fun i hi => by rw [List.getElem?_append_left (by omega)]⟩
theorem VS.put {b id p : Nat} {out : List Nd} {D : List Nat} {v : AVal} {H : AHeap} {c c' : List AVal} (h : VS b id out D v H) (hp : H[p]? = some (.cel 0 c)) (hne : p ≠ id) : VS b id out D v (H.set p (.cel 0 c')) := by
  refine ⟨?_, by rw [List.getElem?_set_ne hne]; exact h.hd⟩
  rcases h.hv with h1 | ⟨t, h1, h2, h3⟩
  · exact .inl h1
  · refine .inr ⟨t, h1, h2, ?_⟩
    have : p ≠ t := fun e => by rw [← e, hp] at h3; cases h3
    rw [List.getElem?_set_ne this]; exact h3
theorem VS.app {b id : Nat} {out : List Nd} {D : List Nat} {v : AVal} {H : AHeap} (h : VS b id out D v H) (hb : b ≤ H.length) (x : Nd) (hl : out.length < 3518437208883) :
    ∃ v' H', appendA ty_api_Node 5 40 v (.sl (enL cNd [x]) .tight) H = some (v', H') ∧ VS b id (out ++ [x]) D v' H' ∧ Ext b id H H' := by
  rcases h.hv with ⟨rfl, rfl⟩ | ⟨t, h1, rfl, h3⟩
  · have := append_tight (f := cNd) (l := []) (m := [x]) (ty := ty_api_Node) (bytes := 40) (tk := .tight) (H := H) (by simp) (by simp) (by simp)
    refine ⟨_, _, this, ⟨.inr ⟨H.length, hb, rfl, by simp⟩, get_snoc _ h.hd⟩, Ext.snoc hb _⟩
  · have := append_own (f := cNd) (l := out) (m := [x]) (ty := ty_api_Node) (bytes := 40) (tk := .tight) (H := H) (t := t) (by simp) h3 (by simp; omega) (by simp; omega)
    have htl := (List.getElem?_eq_some_iff.1 h3).1
    refine ⟨_, _, this, ⟨.inr ⟨t, h1, rfl, by simp [htl]⟩, ?_⟩, ⟨by simp, fun i cs hi hc => ?_, fun i hi => ?_⟩⟩
    · have : t ≠ id := fun e => by have := h.hd; rw [← e, h3] at this; cases this
      rw [List.getElem?_set_ne this]; exact h.hd
    · have : t ≠ i := fun e => by rw [← e, h3] at hc; cases hc
      rw [List.getElem?_set_ne this]; exact hc
    · rw [List.getElem?_set_ne (by omega)]
/-- What the numbers that are told are worth. -/
structure VI (L out : List Nd) (D : List Nat) : Prop where
  len : D.length = L.length + 1
  cnt : out.length ≤ D.countP (fun d => decide (0 < d))
  val : ∀ (n d : Nat), D[n]? = some d → 0 < d → insF L (empL L) (ndAt L n).lv.toNat n out = (out, d)
theorem VI.grow {L out r : List Nd} {D : List Nat} (h : ∀ (n d : Nat), D[n]? = some d → 0 < d → insF L (empL L) (ndAt L n).lv.toNat n out = (out, d)) : ∀ (n d : Nat), D[n]? = some d → 0 < d → insF L (empL L) (ndAt L n).lv.toNat n (out ++ r) = (out ++ r, d) := by
  intro n d h1 h2
  have h3 := h n d h1 h2
  have := insF_again (L := L) (E := empL L) (ndAt L n).lv.toNat n out r
  rwa [h3] at this
theorem VI.le {L out : List Nd} {D : List Nat} (h : VI L out D) : out.length ≤ L.length + 1 := by
  have := h.cnt
  have := List.countP_le_length (p := fun d : Nat => decide (0 < d)) (l := D)
  have := h.len
  omega
theorem insF_lv {L : List Nd} {E : List Bool} {v n : Nat} {out : List Nd} (he : E.getD n true = false) (hl : 1 < (ndAt L n).lv) : insF L E (v + 1) n out = putN' (insK (insF L E v) (ndAt L n) 4 out).1 (insK (insF L E v) (ndAt L n) 4 out).2 := by
  simp only [insF, he, Bool.false_eq_true, if_false, if_pos hl]
theorem insF_one {L : List Nd} {E : List Bool} {v n : Nat} {out : List Nd} (he : E.getD n true = false) (hl : ¬ 1 < (ndAt L n).lv) : insF L E (v + 1) n out = putN' out (ndAt L n) := by
  simp only [insF, he, Bool.false_eq_true, if_false, if_neg hl]
theorem insK_lv (rec : Nat → List Nd → List Nd × Nat) (x : Nd) : ∀ k out, (insK rec x k out).2.lv = x.lv
  | 0, out => rfl
  | k + 1, out => by simp only [insK, setKid_lv]; exact insK_lv rec x k out
theorem insK_kid (rec : Nat → List Nd → List Nd × Nat) (x : Nd) : ∀ k out j, k ≤ j → j < 4 → (insK rec x k out).2.kid j = x.kid j
  | 0, out, j, _, _ => rfl
  | k + 1, out, j, h1, h2 => by
    simp only [insK]
    rw [setKid_other _ _ (by omega) h2 (by omega)]
    exact insK_kid rec x k out j (by omega) h2
theorem q06_visit {L : List Nd} (tk tk2 : Tok) (b id : Nat) (hL : L.length < 3518437208880) (hl : looseB L = true) : ∀ (v n d : Nat) (out : List Nd) (D : List Nat) (w : AVal) (H : AHeap), n ≤ L.length → (n = 0 ∨ (ndAt L n).lv.toNat = v) → v < d → b ≤ id → id < H.length → VS b id out D w H → VI L out D →
    ∃ H' D' w', Sh.gliderref06_visit d (.sl (enL cNd L) tk) (.sl (enL cB (empL L)) tk2) (.int .i64 (n : Int)) w (.ms id 0 0 (L.length + 1) (L.length + 1) 1 true) H = some (.ret (.tup [w', .ms id 0 0 (L.length + 1) (L.length + 1) 1 true, .int .i64 ((insF L (empL L) v n out).2 : Int)]), H') ∧
      VS b id (insF L (empL L) v n out).1 D' w' H' ∧ Ext b id H H' ∧ VI L (insF L (empL L) v n out).1 D' ∧ ∀ j, n < j → D'[j]? = D[j]? := by
  intro v
  induction v with
  | zero =>
    intro n d out D w H hn hv hd hbi hid hVS hVI
    have hb : b ≤ H.length := by omega
    obtain ⟨d, rfl⟩ : ∃ e, d = e + 1 := ⟨d - 1, by omega⟩
    have hn0 : n = 0 := by
      rcases hv with h | h
      · exact h
      · cases n with
        | zero => rfl
        | succ m =>
          rw [ndAt_nat (show m < L.length from hn)] at h
          have := (loose_get hl (show m < L.length from hn)).1; omega
    subst hn0
    have hlt : 0 < (empL L).length := by rw [empL_len]; omega
    have he : (empL L)[0] = true := by have := emp_zero L; rw [List.getD_eq_getElem?_getD, List.getElem?_eq_getElem hlt] at this; exact this
    refine ⟨H, D, w, ?_, hVS, Ext.refl _ _ _, hVI, fun _ _ => rfl⟩
    show Sh.gliderref06_visit_F (Sh.gliderref06_visit d) _ _ _ _ _ _ = _
    unfold Sh.gliderref06_visit_F
    simp only [GMb, joinPt, decide_true, decide_false, if_true, if_false, fieldAddr_cptr, fieldAddr_ptr, load_cptr, Nat.zero_add, Nat.add_zero, Nat.mul_one, cNd_0, idx_enL hlt, List.getElem?_cons_zero, he]
    rfl
  | succ v ih =>
    intro n d out D w H hn hv hd hbi hid hVS hVI
    have hb : b ≤ H.length := by omega
    obtain ⟨d, rfl⟩ : ∃ e, d = e + 1 := ⟨d - 1, by omega⟩
    have hlt : n < (empL L).length := by rw [empL_len]; omega
    have hgd : (empL L).getD n true = (empL L)[n] := by rw [List.getD_eq_getElem?_getD, List.getElem?_eq_getElem hlt]; rfl
    have hDn : n < D.length := by rw [hVI.len]; omega
    have hidx := idx_ms (sz := 1) (id := id) (n := L.length + 1) (K := .i64) (g := 0) (off := 0) (cap := L.length + 1) (ex := true) (i := n) (by omega)
    simp only [Nat.zero_add, Nat.mul_one] at hidx
    have hld := load_el (f := cN) (get_cel hVS.hd) hDn
    show ∃ H' D' w', Sh.gliderref06_visit_F (Sh.gliderref06_visit d) _ _ _ _ _ _ = _ ∧ _
    unfold Sh.gliderref06_visit_F
    simp only [GMb, joinPt, decide_true, decide_false, if_true, if_false, fieldAddr_cptr, fieldAddr_ptr, load_cptr, Nat.zero_add, Nat.add_zero, Nat.mul_one, cNd_0, idx_enL hlt, List.getElem?_cons_zero]
    cases he : (empL L)[n] with
    | true =>
      have e : insF L (empL L) (v + 1) n out = (out, 0) := by simp only [insF, hgd, he, if_true]
      rw [e]
      exact ⟨H, D, w, by simp only [GMb, joinPt, decide_true, decide_false, if_true, if_false]; rfl, hVS, Ext.refl _ _ _, hVI, fun _ _ => rfl⟩
    | false =>
      rw [he] at hgd
      simp only [GMb, joinPt, decide_true, decide_false, if_true, if_false, hidx, hld, List.getElem?_cons_zero]
      by_cases hpos : 0 < D[n]
      · have hi : (D[n] : Int) > 0 := by omega
        have hv' : (ndAt L n).lv.toNat = v + 1 := by
          rcases hv with h | h
          · exfalso; subst h; rw [emp_zero] at hgd; cases hgd
          · exact h
        have e := hVI.val n D[n] (List.getElem?_eq_getElem hDn) hpos
        rw [hv'] at e
        rw [e]
        exact ⟨H, D, w, by simp only [GMb, joinPt, decide_true, decide_false, if_true, if_false, hi], hVS, Ext.refl _ _ _, hVI, fun _ _ => rfl⟩
      · have hi : ¬ (D[n] : Int) > 0 := by omega
        have hD0 : D[n] = 0 := by omega
        obtain ⟨m, rfl⟩ : ∃ m, n = m + 1 := ⟨n - 1, by
          cases n with
          | zero => rw [emp_zero] at hgd; cases hgd
          | succ n => rfl⟩
        have hm : m < L.length := hn
        have hv' : (ndAt L ((m + 1 : Nat) : Int)).lv.toNat = v + 1 := by
          rcases hv with h | h
          · omega
          · exact h
        obtain ⟨l1, l2, l3⟩ := loose_get hl hm
        have hx : ndAt L ((m + 1 : Nat) : Int) = L[m] := ndAt_nat hm
        rw [hx] at hv'
        have hwm : IntKind.i64.wrap (((m + 1 : Nat) : Int) - 1) = (m : Int) := by rw [wrap_i64] <;> omega
        simp only [GMb, joinPt, decide_true, decide_false, if_true, if_false, hi, hwm, idx_enL hm, load_nd, alloc_nd, store_ndP (last_cel (B := H) (cs := cNd nd0)) rfl, last_set]
        generalize hX : L[m] = x at l1 l2 l3 hv' hx
        have hpid : H.length ≠ id := by omega
        -- the loop over the quarters
        have loop := loop_inv (G := fun rec1 vs H1 => Sh.gliderref06_visit_l1 H (Sh.gliderref06_visit d) rec1 (ag vs 0) (ag vs 1) (ag vs 2) (ag vs 3) (ag vs 4) (ag vs 5) (ag vs 6) H1) (if 1 < x.lv then 4 else 0)
          (fun k vs Hc => ∃ w' D', vs = [.sl (enL cNd L) tk, .sl (enL cB (empL L)) tk2, .int .i64 ((m + 1 : Nat) : Int), w', .ms id 0 0 (L.length + 1) (L.length + 1) 1 true, .ptr H.length 0 0, .int .i64 (k : Int)] ∧ VS b id (insK (insF L (empL L) v) x k out).1 D' w' Hc ∧ Hc[H.length]? = some (.cel 0 (cNd (insK (insF L (empL L) v) x k out).2)) ∧ Ext b id H Hc ∧ VI L (insK (insF L (empL L) v) x k out).1 D' ∧ (∀ j, m < j → D'[j]? = D[j]?))
          (by split <;> decide) (fun k vs Hc hk hI => ?_) (vs := [.sl (enL cNd L) tk, .sl (enL cB (empL L)) tk2, .int .i64 ((m + 1 : Nat) : Int), w, .ms id 0 0 (L.length + 1) (L.length + 1) 1 true, .ptr H.length 0 0, .int .i64 0]) (H := H ++ [.cel 0 (cNd x)]) ⟨w, D, rfl, hVS.snoc _, by simp [insK], Ext.snoc hb _, hVI, fun _ _ => rfl⟩
        · obtain ⟨vs', Hc, ⟨w', D', rfl, hVS', hcell, hExt, hVI', hDD⟩, rec, hloop⟩ := loop
          rw [hloop]
          unfold Sh.gliderref06_visit_l1
          obtain ⟨tkk, rfl⟩ := hVS'.sl
          have hle := hVI'.le
          have hstop : (condV (.bool (decide (((if 1 < x.lv then 4 else 0 : Nat) : Int) < 4))) (.bool (decide (x.lv > 1))) (.bool false)) = some (.bool false) := by
            by_cases h : 1 < x.lv <;> simp [h]
          have hlvI : (insK (insF L (empL L) v) x (if 1 < x.lv then 4 else 0) out).2.lv = x.lv := insK_lv _ _ _ _
          have hput : insF L (empL L) (v + 1) (m + 1) out = putN' (insK (insF L (empL L) v) x (if 1 < x.lv then 4 else 0) out).1 (insK (insF L (empL L) v) x (if 1 < x.lv then 4 else 0) out).2 := by
            by_cases h : 1 < x.lv
            · rw [if_pos h, insF_lv hgd (by rw [hx]; exact h), hx]
            · rw [if_neg h, insF_one hgd (by rw [hx]; exact h), hx]; rfl
          have hpre := insK_pre (insF_pre (L := L) (E := empL L) v) x (if 1 < x.lv then 4 else 0) out
          rw [hput]
          have hagain := insF_again (L := L) (E := empL L) (v + 1) (m + 1) out []
          rw [List.append_nil, hput] at hagain
          generalize (insK (insF L (empL L) v) x (if 1 < x.lv then 4 else 0) out) = io at *
          obtain ⟨o, y⟩ := io
          dsimp only at hVS' hcell hVI' hlvI hpre hagain hle ⊢
          have hcond : ∀ (A B : Out), (gk (.bool (decide (((if 1 < x.lv then 4 else 0 : Nat) : Int) < 4))) true (fieldAddrA 0 (.ptr H.length 0 0)) fun x29 => gk (.bool (decide (((if 1 < x.lv then 4 else 0 : Nat) : Int) < 4))) true (loadA false 1 x29 Hc) fun x30 => gk (.bool (decide (((if 1 < x.lv then 4 else 0 : Nat) : Int) < 4))) true (binA .none .gtr x30 (.int .i64 1)) fun x31 => (condV (.bool (decide (((if 1 < x.lv then 4 else 0 : Nat) : Int) < 4))) x31 (.bool false)).bind fun x32 => condA x32 A B) = B := by
            intro A B
            by_cases h : 1 < x.lv
            · have hf : ¬ (((4 : Nat) : Int) < 4) := by decide
              simp only [if_pos h, hf, GMb, joinPt, decide_true, decide_false, if_true, if_false]
            · have hf : (((0 : Nat) : Int) < 4) := by decide
              have h' : ¬ x.lv > 1 := h
              simp only [if_neg h, hf, GMb, joinPt, decide_true, decide_false, if_true, if_false, fieldAddr_ptr, Nat.add_zero, load_lvP hcell, hlvI, h']
          simp only [ag_zero, ag_succ, bin_lss, obind]
          rw [hcond]
          have hidx' : idxSl 1 (.ms id 0 0 (L.length + 1) (L.length + 1) 1 true) (.int .i64 ((m + 1 : Nat) : Int)) = some (.ptr id 0 (m + 1)) := hidx
          have hD'n : D'[m + 1]? = some 0 := by rw [hDD (m + 1) (by omega), List.getElem?_eq_getElem hDn, hD0]
          have hDl : m + 1 < D'.length := by rw [hVI'.len]; omega
          have hD'e : D'[m + 1] = 0 := by rw [List.getElem?_eq_getElem hDl] at hD'n; injection hD'n
          -- the end: the number is told
          have fin : ∀ (o' : List Nd) (i : Nat) (w2 : AVal) (H2 : AHeap), putN' o y = (o', i) → VS b id o' D' w2 H2 → Ext b id H H2 → VI L o D' → o'.length ≤ o.length + 1 → (∃ r, o' = o ++ r) →
              ∃ H' D'' w'', Sh.gliderref06_visit_j2 H (.int .i64 ((m + 1 : Nat) : Int)) w2 (.ms id 0 0 (L.length + 1) (L.length + 1) 1 true) (.int .i64 (i : Int)) H2 = some (.ret (.tup [w'', .ms id 0 0 (L.length + 1) (L.length + 1) 1 true, .int .i64 (i : Int)]), H') ∧ VS b id o' D'' w'' H' ∧ Ext b id H H' ∧ VI L o' D'' ∧ ∀ j, m + 1 < j → D''[j]? = D[j]? := by
            intro o' i w2 H2 hp hV2 hE2 hI2 hlen ⟨r, hr⟩
            have hi0 : 0 < i := by have := putN_pos o y; rw [hp] at this; exact this
            have hst := store_el (f := cN) (sz := 1) (l := D') (i := m + 1) (a := i) (v := .int .i64 (i : Int)) (get_cel hV2.hd) hDl rfl
            rw [setC_cel hV2.hd, Nat.mul_one] at hst
            have hidl := (List.getElem?_eq_some_iff.1 hV2.hd).1
            refine ⟨H2.set id (.cel 0 (flat cN (D'.set (m + 1) i))), D'.set (m + 1) i, w2, by unfold Sh.gliderref06_visit_j2; simp only [GMb, joinPt, decide_true, decide_false, if_true, if_false, hidx', hst], ⟨?_, by simp [hidl]⟩, ⟨by simp; exact hE2.len, fun j cs hj hc => ?_, fun j hj => ?_⟩, ⟨by simp [hI2.len], ?_, ?_⟩, fun j hj => ?_⟩
            · rcases hV2.hv with h1 | ⟨t, h1, h2, h3⟩
              · exact .inl h1
              · refine .inr ⟨t, h1, h2, ?_⟩
                have : id ≠ t := fun e => by have := hV2.hd; rw [e, h3] at this; cases this
                rw [List.getElem?_set_ne this]; exact h3
            · rw [List.getElem?_set_ne (fun e => hj e.symm)]; exact hE2.cel j cs hj hc
            · rw [List.getElem?_set_ne (by omega)]; exact hE2.old j hj
            · rw [List.countP_set hDl]
              have := hI2.cnt
              simp only [hD'e, hi0, decide_true, if_true, Nat.lt_irrefl, decide_false, Bool.false_eq_true, if_false, Nat.sub_zero]
              omega
            · intro j dd hj hdd
              by_cases hjm : j = m + 1
              · subst hjm
                rw [List.getElem?_set_self hDl] at hj
                injection hj with hj
                subst hj
                rw [hx, hv']
                rw [hp] at hagain
                exact hagain
              · rw [List.getElem?_set_ne (fun e => hjm e.symm)] at hj
                rw [hr]
                exact VI.grow hI2.val j dd hj hdd
            · rw [List.getElem?_set_ne (by omega)]; exact hDD j (by omega)
          have hnd := q06_find o tkk y Hc (by omega)
          simp only [GMb, joinPt, decide_true, decide_false, if_true, if_false, load_ndP hcell, hnd]
          by_cases hf : findN o y = 0
          · have hp : putN' o y = (o ++ [y], o.length + 1) := by simp [putN', hf]
            obtain ⟨w2, H2, ha, hV2, hE2⟩ := hVS'.app (Nat.le_trans hb hExt.len) y (by omega)
            obtain ⟨tk3, rfl⟩ := hV2.sl
            have h0 : ((findN o y : Nat) : Int) = 0 := by omega
            obtain ⟨H', D'', w'', q1, q2, q3, q4, q5⟩ := fin (o ++ [y]) (o.length + 1) _ H2 hp hV2 (hExt.trans hE2) hVI' (by simp) ⟨[y], rfl⟩
            refine ⟨H', D'', w'', ?_, by rw [hp]; exact q2, q3, by rw [hp]; exact q4, q5⟩
            rw [hp, ← q1]
            simp only [GMb, joinPt, decide_true, decide_false, if_true, if_false, h0, build_nd, ha, len_enL, List.length_append, List.length_singleton]
          · have hp : putN' o y = (o, findN o y) := by simp [putN', hf]
            have h0 : ¬ ((findN o y : Nat) : Int) = 0 := by omega
            obtain ⟨H', D'', w'', q1, q2, q3, q4, q5⟩ := fin o (findN o y) _ Hc hp hVS' hExt hVI' (by omega) ⟨[], by simp⟩
            refine ⟨H', D'', w'', ?_, by rw [hp]; exact q2, q3, by rw [hp]; exact q4, q5⟩
            rw [hp, ← q1]
            simp only [GMb, joinPt, decide_true, decide_false, if_true, if_false, h0]
        · obtain ⟨w', D', rfl, hVS', hcell, hExt, hVI', hDD⟩ := hI
          have hlv : 1 < x.lv := by
            by_cases h : 1 < x.lv
            · exact h
            · rw [if_neg h] at hk; omega
          rw [if_pos hlv] at hk
          obtain ⟨q1, q2, q3⟩ := l3 k hk
          have hk' : (k : Int) < 4 := by omega
          have hlvI := insK_lv (insF L (empL L) v) x k out
          have hkid := insK_kid (insF L (empL L) v) x k out k (Nat.le_refl _) hk
          obtain ⟨c, hc⟩ := Int.eq_ofNat_of_zero_le q1
          have hcle : c ≤ m := by
            by_cases h0 : 0 < x.kid k
            · have := (q3 hlv h0).1; omega
            · omega
          have hclv : c = 0 ∨ (ndAt L (c : Int)).lv.toNat = v := by
            by_cases h0 : 0 < x.kid k
            · right
              obtain ⟨c', rfl⟩ : ∃ c', c = c' + 1 := ⟨c - 1, by omega⟩
              have hcl : c' < L.length := by omega
              have := (q3 hlv h0).2 L[c'] (by rw [show (x.kid k - 1).toNat = c' from by omega]; exact List.getElem?_eq_getElem hcl)
              rw [ndAt_nat hcl]; omega
            · left; omega
          obtain ⟨H1, D1, w1, r1, r2, r3, r4, r5⟩ := ih c d (insK (insF L (empL L) v) x k out).1 D' w' Hc (by omega) hclv (by omega) hbi (Nat.lt_of_lt_of_le hid hExt.len) hVS' hVI'
          have hcell1 := r3.cel _ _ hpid hcell
          have hto : (x.kid k).toNat = c := by omega
          refine ⟨[.sl (enL cNd L) tk, .sl (enL cB (empL L)) tk2, .int .i64 ((m + 1 : Nat) : Int), w1, .ms id 0 0 (L.length + 1) (L.length + 1) 1 true, .ptr H.length 0 0, .int .i64 ((k + 1 : Nat) : Int)], H1.set H.length (.cel 0 (cNd ((insK (insF L (empL L) v) x k out).2.setKid k ((insF L (empL L) v c (insK (insF L (empL L) v) x k out).1).2 : Int)))), ⟨w1, D1, rfl, ?_, ?_, ?_, ?_, ?_⟩, fun rec => ?_⟩
          rotate_left 5
          · unfold Sh.gliderref06_visit_l1
            simp only [ag_zero, ag_succ, GMb, joinPt, decide_true, decide_false, if_true, if_false, hk', fieldAddr_ptr, Nat.add_zero, Nat.zero_add, load_lvP hcell, hlvI, show x.lv > 1 from hlv, idx_kidP hk, load_kidP hcell hk, hkid, hc, r1, extract_0, extract_1, extract_2, store_kidP hcell1 hk, wrap_succ (show k < 9223372036854775807 by omega)]
          · simp only [insK, hto]
            exact r2.put hcell1 hpid
          · have hl1 := (List.getElem?_eq_some_iff.1 hcell1).1
            simp only [insK, hto]
            rw [List.getElem?_set_self hl1]
          · refine ⟨by simp; exact (hExt.trans r3).len, fun i cs hi hcs => ?_, fun i hi => ?_⟩
            · have := (List.getElem?_eq_some_iff.1 hcs).1
              rw [List.getElem?_set_ne (by omega)]; exact (hExt.trans r3).cel i cs hi hcs
            · rw [List.getElem?_set_ne (by omega)]; exact (hExt.trans r3).old i hi
          · simp only [insK, hto]; exact r4
          · intro j hj; rw [r5 j (by omega)]; exact hDD j hj
end Go.Gm
/- Chapter 6 of the document: a node's quad. -/
namespace Go.Gm
set_option linter.unusedVariables false
set_option linter.unusedSimpArgs false
theorem take_of_old {H H0 : AHeap} (h : ∀ i, i < H0.length → H[i]? = H0[i]?) : H.take H0.length = H0 := by
  apply List.ext_getElem?
  intro i
  by_cases hi : i < H0.length
  · rw [List.getElem?_take_of_lt hi, h i hi]
  · rw [List.getElem?_eq_none (by simp; omega), List.getElem?_eq_none (by omega)]
theorem shrinkF_ok : ∀ (f : Nat) (L : List Nd) (n : Nat), looseB L = true → n ≤ L.length → looseB (shrinkF f L n).1 = true ∧ (shrinkF f L n).2 ≤ (shrinkF f L n).1.length ∧ (shrinkF f L n).1.length ≤ L.length + f
  | 0, L, n, hl, hn => ⟨hl, hn, Nat.le_refl _⟩
  | f + 1, L, n, hl, hn => by
    unfold shrinkF
    cases hh : hollowB L n with
    | false => exact ⟨hl, hn, by show L.length ≤ _; omega⟩
    | true =>
      obtain ⟨h0, h2⟩ := hollow_lv hh
      obtain ⟨m, rfl⟩ : ∃ m, n = m + 1 := ⟨n - 1, by omega⟩
      rw [ndAt_nat hn] at h2
      obtain ⟨r1, r2, r3⟩ := shrinkF_ok f (L ++ [innNd L (m + 1)]) (L.length + 1) (inn_loose hl hn h2) (by simp)
      simp only [if_true]
      refine ⟨r1, r2, ?_⟩
      simp at r3; omega
theorem emp_pos {L : List Nd} {n : Nat} (h : (empL L).getD n true = false) : 0 < n := by
  cases n with
  | zero => rw [emp_zero] at h; cases h
  | succ n => omega
theorem lv_le {L : List Nd} (hl : looseB L = true) {n : Nat} (h0 : 0 < n) (hn : n ≤ L.length) : (ndAt L (n : Int)).lv.toNat ≤ 1329 := by
  obtain ⟨m, rfl⟩ : ∃ m, n = m + 1 := ⟨n - 1, by omega⟩
  rw [ndAt_nat hn]
  have := (loose_get hl hn).2.1; omega
theorem shrink_ok {L : List Nd} {n : Nat} (hl : looseB L = true) (hn : n ≤ L.length) : looseB (shrink L n).1 = true ∧ (shrink L n).2 ≤ (shrink L n).1.length ∧ (shrink L n).1.length ≤ L.length + 1329 := by
  unfold shrink
  cases he : (empL L).getD n true with
  | true => exact ⟨hl, Nat.zero_le _, by show L.length ≤ _; omega⟩
  | false =>
    obtain ⟨r1, r2, r3⟩ := shrinkF_ok (ndAt L n).lv.toNat L n hl hn
    have := lv_le hl (emp_pos he) hn
    simp only [Bool.false_eq_true, if_false]
    exact ⟨r1, r2, by omega⟩
/-- The quad of a node. -/
def canonL (L : List Nd) (n : Nat) : List Nd := (insF (shrink L n).1 (empL (shrink L n).1) (ndAt (shrink L n).1 ((shrink L n).2 : Int)).lv.toNat (shrink L n).2 []).1
def ofOk (L : List Nd) (n : Int) : Bool := looseB L && decide (0 ≤ n) && decide (n ≤ L.length)
theorem q06_of (L : List Nd) (tk : Tok) (n : Int) (H : AHeap) (hL : L.length < 3518437200000) : Sh.gliderref06_Of (.sl (enL cNd L) tk) (.int .i64 n) H =
    some (.ret (if ofOk L n then .tup [quad (canonL L n.toNat), .int .i64 0] else .tup [quad [], .int .i64 1]), H) := by
  unfold Sh.gliderref06_Of
  rw [alloc_eq (cs := [.sl [] .tight]) rfl]
  have hcell : ∀ G : AHeap, (H ++ [Blk.cel 0 [.sl [] .tight]] ++ G)[H.length]? = some (.cel 0 [.sl [] .tight]) := fun G => by simp
  have bad : ∀ (k : AVal → AHeap → Out), (∀ v G, k v G = (resM [loadA true 1 (.ptr H.length 0 0) G, some (.int .i64 1)]).bind fun x19 => rPN H x19 G) →
      ((buildA (some [(.sl [] .tight)]) []).bind fun x16 => bP H (retH (storeA 1 (.ptr H.length 0 0) x16 (H ++ [.cel 0 [.sl [] .tight]]))) k) = some (.ret (.tup [quad [], .int .i64 1]), H) := by
    intro k hk
    have hb : buildA (some [(.sl [] .tight)]) [] = some (.agg [.sl [] .tight]) := rfl
    simp only [GMb, joinPt, decide_true, decide_false, if_true, if_false, hb, store_app0, store_all (sz := 1) (cs := [.sl [] .tight]) (vs := [.sl [] .tight]) (v := .agg [.sl [] .tight]) rfl rfl rfl, Option.map_some, hk, load_app0, load_whole, List.length_singleton, resM_eq, seqO_cons, seqO_nil]
    simp only [rPN_app, fall_tup, fparts_cons, fparts_nil, fpart_agg, fcells_cons, fcells_nil, fcell_sl, fpart_int, GMb, joinPt, decide_true, decide_false, if_true, if_false, Option.map_some]
    rfl
  simp only [GMb, joinPt, decide_true, decide_false, if_true, if_false, q05_loose L tk _ (show L.length < 1152921504606846976 by omega)]
  unfold ofOk
  cases hl : looseB L with
  | false =>
    simp only [GMb, joinPt, decide_true, decide_false, if_true, if_false]
    exact bad _ fun v G => rfl
  | true =>
    simp only [GMb, joinPt, decide_true, decide_false, if_true, if_false, len_enL]
    by_cases hn0 : n < 0
    · have : ¬ 0 ≤ n := by omega
      simp only [GMb, joinPt, decide_true, decide_false, if_true, if_false, hn0, this]
      exact bad _ fun v G => rfl
    · have h0' : 0 ≤ n := by omega
      by_cases hn1 : n > L.length
      · have : ¬ n ≤ L.length := by omega
        simp only [GMb, joinPt, decide_true, decide_false, if_true, if_false, hn0, h0', hn1, this, len_enL]
        exact bad _ fun v G => rfl
      · obtain ⟨n, rfl⟩ := Int.eq_ofNat_of_zero_le h0'
        have hle : n ≤ L.length := by omega
        have hle' : (n : Int) ≤ (L.length : Int) := by omega
        have hnn : ¬ (n : Int) > (L.length : Int) := hn1
        obtain ⟨s1, s2, s3⟩ := shrink_ok hl hle
        simp only [GMb, joinPt, decide_true, decide_false, if_true, if_false, hn0, h0', hnn, hle', len_enL, q06_shrink L tk n _ (show L.length < 3518437200000 by omega) hl hle, extract_0, extract_1]
        unfold canonL
        simp only [Int.toNat_natCast]
        generalize shrink L n = s at s1 s2 s3
        obtain ⟨M, r⟩ := s
        dsimp only at s1 s2 s3 ⊢
        have hmk := make_flat (f := cN) (a := 0) (n := M.length + 1) (bytes := 8) (H := H ++ [.cel 0 [.sl [] .tight]]) (by omega) (by omega)
        simp only [show cN 0 = [AVal.int .i64 0] from rfl] at hmk
        simp only [GMb, joinPt, decide_true, decide_false, if_true, if_false, q05_empties M .no _ (show M.length < 140737488355327 by omega) s1, len_enL, wrap_succ (show M.length < 9223372036854775807 by omega), hmk]
        have hlvv : (ndAt M (r : Int)).lv.toNat < FUEL := by
          rw [fuel_val]
          by_cases hr : 0 < r
          · have := lv_le s1 hr s2; omega
          · obtain rfl : r = 0 := by omega
            unfold ndAt
            rw [List.getD_eq_getElem?_getD]
            by_cases hM : 0 < M.length
            · rw [show (((0 : Nat) : Int) - 1).toNat = 0 from rfl, List.getElem?_eq_getElem hM]
              have := (loose_get s1 hM).2.1
              simp only [Option.getD_some]; omega
            · rw [show (((0 : Nat) : Int) - 1).toNat = 0 from rfl, List.getElem?_eq_none (by omega)]; simp
        obtain ⟨H', D', w', v1, v2, v3, v4, v5⟩ := q06_visit (L := M) .no .no (H ++ [Blk.cel 0 [.sl [] .tight]]).length (H ++ [Blk.cel 0 [.sl [] .tight]]).length (by omega) s1 (ndAt M (r : Int)).lv.toNat r FUEL [] (List.replicate (M.length + 1) 0) (.sl [] .tight) (H ++ [.cel 0 [.sl [] .tight]] ++ [.cel 0 (flat cN (List.replicate (M.length + 1) 0))])
          s2 (.inr rfl) hlvv (Nat.le_refl _) (by simp) ⟨.inl ⟨rfl, rfl⟩, last_cel⟩ ⟨by simp, by simp, fun j dd hj hdd => by
            have := List.mem_of_getElem? hj
            rw [List.mem_replicate] at this; omega⟩
        have hold : ∀ i, i < H.length + 1 → H'[i]? = (H ++ [Blk.cel 0 [.sl [] .tight]])[i]? := fun i hi => by
          rw [v3.old i (by simpa using hi), List.getElem?_append_left (by simpa using hi)]
        have hc' : H'[H.length]? = some (.cel 0 [.sl [] .tight]) := by rw [hold _ (by omega)]; simp
        have hcl := (List.getElem?_eq_some_iff.1 hc').1
        obtain ⟨tk3, rfl⟩ := v2.sl
        generalize (insF M (empL M) (ndAt M (r : Int)).lv.toNat r []).1 = Q at v1 v2 v4 ⊢
        have hb : buildA (some [(.sl [] .tight)]) [(0, 1, .sl (enL cNd Q) tk3)] = some (.agg [.sl (enL cNd Q) tk3]) := by simp [buildA, fillA, putN]
        have hst : storeA 1 (.ptr H.length 0 0) (.agg [.sl (enL cNd Q) tk3]) H' = some (H'.set H.length (.cel 0 [.sl (enL cNd Q) tk3])) := by
          simp only [storeA, get_cel hc', Option.bind_some, setC_cel hc']; rfl
        have hld : loadA true 1 (.ptr H.length 0 0) (H'.set H.length (.cel 0 [.sl (enL cNd Q) tk3])) = some (.agg [.sl (enL cNd Q) tk3]) := by
          have : (H'.set H.length (.cel 0 [.sl (enL cNd Q) tk3]))[H.length]? = some (.cel 0 [.sl (enL cNd Q) tk3]) := by rw [List.getElem?_set_self hcl]
          simp only [loadA, get_cel this, Option.bind_some]; rfl
        have htake : (H'.set H.length (.cel 0 [.sl (enL cNd Q) tk3])).take H.length = H := take_of_old fun i hi => by
          rw [List.getElem?_set_ne (by omega), hold i (by omega), List.getElem?_append_left hi]
        simp only [GMb, joinPt, decide_true, decide_false, if_true, if_false, v1, extract_0, hb, hst, hld, resM_eq, seqO_cons, seqO_nil, Option.map_some, rPN_eq htake, fall_tup, fparts_cons, fparts_nil, fpart_agg, fcells_cons, fcells_nil, fcell_sl, fpart_int]
        rfl
end Go.Gm
/- Chapter 1 of the document: bits and limbs. -/
namespace Go.Gm
set_option linter.unusedVariables false
set_option linter.unusedSimpArgs false
theorem q01_cut (l : List Bool) (tk : Tok) (H : AHeap) (hb : l.length < 1152921504606846976) : Sh.gliderref01_cut (.sl (enL cB l) tk) H = some (.ret (.sl (enL cB (cutL l)) .no), H) := by
  unfold Sh.gliderref01_cut
  refine loop_fun (σ := List Bool × Tok) (fun s => s.1.length < 1152921504606846976) (fun s => [.sl (enL cB s.1) s.2]) (fun _ => H) (fun s => s.1.length) (fun s => some (.ret (.sl (enL cB (cutL s.1)) .no), H)) (fun s rec hs hrec => ?_) (l, tk) hb hb
  obtain ⟨l, tk⟩ := s
  simp only at hs hrec ⊢
  unfold Sh.gliderref01_cut_l1
  rcases snoc_cases l with rfl | ⟨l', b, rfl⟩
  · simp [cutL_nil]
  · simp only [List.length_append, List.length_singleton] at hs hrec
    have h1 : l'.length < (l' ++ [b]).length := by simp
    have h2 : ((((l' ++ [b]).length : Nat) : Int) > 0) := by simp
    have h3 : IntKind.i64.wrap ((((l' ++ [b]).length : Nat) : Int) - 1) = (l'.length : Int) := by rw [wrap_i64] <;> simp <;> omega
    simp only [ag_zero, len_enL, Option.bind_some, bin_gtr, h2, decide_true, gk_tt, bin_sub, h3, idx_enL h1, load_cptr, List.getElem?_cons_zero, un_not, condV_true, List.getElem_append_right (Nat.le_refl _), Nat.sub_self, List.getElem_cons_zero]
    cases b with
    | true => simp [cutL_true]
    | false =>
      have := hrec (l', sliceTok tk 0 l'.length (l' ++ [false]).length false) (by dsimp only; omega) (by simp)
      simp only [Bool.not_false, condA_true, slice_to (Nat.le_of_lt h1), Option.bind_some, List.take_left', this, cutL_false]
theorem q01_at (l : List Bool) (tk : Tok) (i : Int) (H : AHeap) : Sh.gliderref01_at (.sl (enL cB l) tk) (.int .i64 i) H = some (.ret (.bool (decide (0 ≤ i) && l.getD i.toNat false)), H) := by
  unfold Sh.gliderref01_at
  by_cases h0 : 0 ≤ i
  · obtain ⟨n, rfl⟩ := Int.eq_ofNat_of_zero_le h0
    by_cases h1 : n < l.length
    · have h2 : (n : Int) < (l.length : Int) := by omega
      simp [h2, idx_enL h1, List.getD_eq_getElem?_getD, List.getElem?_eq_getElem h1]
    · have h2 : ¬ (n : Int) < (l.length : Int) := by omega
      simp [h2, List.getD_eq_getElem?_getD, List.getElem?_eq_none (Nat.le_of_not_lt h1)]
  · simp [h0]
theorem q01_bits (l : List Nat) (tk : Tok) (H : AHeap) (hl : l.length ≤ 2199023255552) (hx : Lim l) : Sh.gliderref01_Bits (.sl (enL cU l) tk) H = some (.ret (.sl (enL cB (cutL (bitsAll l))) .no), H) := by
  unfold Sh.gliderref01_Bits
  refine loop_up l.length (fun i => [.sl (enL cU l) tk, outS cB H (bitsAll (l.take i)), .int .i64 (i : Int)]) (fun i => outT cB ty_bool 1 H (bitsAll (l.take i))) _ (by omega) (fun rec i hi => ?_) (fun rec => ?_)
  · have hi' : (i : Int) < (l.length : Int) := by omega
    have hxi : l[i] < 4294967296 := hx _ (List.getElem_mem hi)
    have htk : bitsAll (l.take (i + 1)) = bitsAll (l.take i) ++ bitsOf 32 l[i] := by
      rw [List.take_succ_eq_append_getElem hi, bitsAll, List.flatMap_append]; simp [bitsAll]
    have hlen : (bitsAll (l.take i)).length ≤ 32 * 2199023255552 := by rw [bitsAll_length]; simp; omega
    unfold Sh.gliderref01_Bits_l1
    simp only [ag_zero, ag_1, ag_2, len_enL, Option.bind_some, bin_lss, hi', decide_true, condA_true, idx_enL hi, load_cptr, List.getElem?_cons_zero, htk]
    generalize bitsAll (l.take i) = o at hlen
    generalize l[i] = x at hxi
    refine loop_fun (σ := Nat × Nat × List Bool) (fun s => s.1 ≤ 32 ∧ s.2.1 < 4294967296 ∧ s.2.2.length ≤ o.length + s.1) (fun s => [.sl (enL cU l) tk, outS cB H s.2.2, .int .i64 (i : Int), .int .u32 (s.2.1 : Int), .int .i64 (s.1 : Int)]) (fun s => outT cB ty_bool 1 H s.2.2) (fun s => 32 - s.1)
      (fun s => rec [.sl (enL cU l) tk, outS cB H (s.2.2 ++ bitsOf (32 - s.1) s.2.1), .int .i64 ((i + 1 : Nat) : Int)] (outT cB ty_bool 1 H (s.2.2 ++ bitsOf (32 - s.1) s.2.1))) (fun s rec2 hs hrec => ?_) (0, x, o) ⟨by dsimp only; omega, hxi, by dsimp only; omega⟩ (by dsimp only; omega)
    obtain ⟨k, y, p⟩ := s
    obtain ⟨hk, hy, hp⟩ := hs
    simp only at hk hy hp hrec ⊢
    unfold Sh.gliderref01_Bits_l2
    by_cases h : k < 32
    · have h' : (k : Int) < 32 := by omega
      have e1 : (y : Int).tmod 2 = ((y % 2 : Nat) : Int) := rfl
      have e2 : IntKind.u32.wrap ((y : Int).tdiv 2) = ((y / 2 : Nat) : Int) := by rw [show (y : Int).tdiv 2 = ((y / 2 : Nat) : Int) from rfl, wrap_u32] <;> omega
      have e3 : (((y % 2 : Nat) : Int) == 1) = (y % 2 == 1) := by rw [Bool.eq_iff_iff]; simp only [beq_iff_eq]; omega
      have e4 : IntKind.i64.wrap ((k : Int) + 1) = ((k + 1 : Nat) : Int) := by rw [wrap_i64] <;> omega
      have := hrec (k + 1, y / 2, p ++ [y % 2 == 1]) ⟨h, by dsimp only; omega, by simp; omega⟩ (by dsimp only; omega)
      simp only [ag_zero, ag_1, ag_2, ag_3, ag_4, bin_lss, h', decide_true, Option.bind_some, condA_true, bin_rem (show (2 : Int) ≠ 0 by decide), bin_quo (show (2 : Int) ≠ 0 by decide), e1, e2, bin_eql, e3, build_B]
      rw [append_out (by simp) (by simp; omega) (by simp; omega)]
      simp only [retVH_some, bP_ret, bin_add, Option.bind_some, e4, this]
      rw [show 32 - k = (32 - (k + 1)) + 1 from by omega, bitsOf]; simp
    · have : k = 32 := by omega
      subst this
      have e4 : IntKind.i64.wrap ((i : Int) + 1) = ((i + 1 : Nat) : Int) := by rw [wrap_i64] <;> omega
      simp [bitsOf, e4]
  · unfold Sh.gliderref01_Bits_l1
    obtain ⟨G, hG⟩ := outT_eq (f := cB) (ty := ty_bool) (sz := 1) H (bitsAll l)
    rw [List.take_of_length_le (Nat.le_refl _)]
    simp only [ag_zero, ag_1, ag_2, outS_eq, hG, len_enL, Option.bind_some, bin_lss, Int.lt_irrefl, decide_false, condA_false, q01_cut (bitsAll l) _ _ (by rw [bitsAll_length]; omega), bP_ret, rPN_app, fall_sl, Option.map_some]
end Go.Gm
/- Chapter 1 of the document: limbs of bits; one way; right; below. -/
namespace Go.Gm
set_option linter.unusedVariables false
set_option linter.unusedSimpArgs false
theorem q01_of (l : List Bool) (tk : Tok) (H : AHeap) (hl : l.length ≤ 70368744177664) : Sh.gliderref01_Of (.sl (enL cB l) tk) H = some (.ret (.sl (enL cU (lims (nat1 l))) .no), H) := by
  unfold Sh.gliderref01_Of
  have hcl := cutL_le l
  rw [q01_cut l tk H (by omega), ← limbsOf_eq, limbsOf]
  simp only [bP_ret]
  generalize cutL l = c at hcl
  obtain ⟨n, hn⟩ : ∃ n, n = (c.length + 31) / 32 := ⟨_, rfl⟩
  rw [← hn]
  refine loop_up n (fun q => [.sl (enL cB c) .no, outS cU H (limbsTo c q), .int .i64 ((32 * q : Nat) : Int)]) (fun q => outT cU ty_uint32 1 H (limbsTo c q)) _ (by omega) (fun rec q hq => ?_) (fun rec => ?_)
  · have hq' : ((32 * q : Nat) : Int) < (c.length : Int) := by omega
    unfold Sh.gliderref01_Of_l1
    simp only [ag_zero, ag_1, ag_2, len_enL, Option.bind_some, bin_lss, hq', decide_true, condA_true]
    have hlo : (limbsTo c q).length = q := limbsTo_length c q
    rw [limbsTo_succ]
    generalize limbsTo c q = o at hlo
    refine loop_fun (σ := Nat) (fun j => j ≤ min 32 (c.length - 32 * q)) (fun j => [.sl (enL cB c) .no, outS cU H o, .int .i64 ((32 * q : Nat) : Int), .int .u32 ((nat1 ((c.drop (32 * q)).take j) : Nat) : Int), .int .u32 (IntKind.u32.wrap ((2 : Int) ^ j)), .int .i64 ((32 * q + j : Nat) : Int)]) (fun _ => outT cU ty_uint32 1 H o) (fun j => 32 - j)
      (fun _ => rec [.sl (enL cB c) .no, outS cU H (o ++ [limbAt c q]), .int .i64 ((32 * (q + 1) : Nat) : Int)] (outT cU ty_uint32 1 H (o ++ [limbAt c q]))) (fun j rec2 hj hrec => ?_) 0 (by omega) (by omega)
    unfold Sh.gliderref01_Of_l2
    have hw : IntKind.i64.wrap (((32 * q : Nat) : Int) + 32) = ((32 * (q + 1) : Nat) : Int) := by rw [wrap_i64] <;> omega
    by_cases h : j < min 32 (c.length - 32 * q)
    · have h1 : ((32 * q + j : Nat) : Int) < (c.length : Int) := by omega
      have h1' : 32 * q + j < c.length := by omega
      have h2 : ((32 * q + j : Nat) : Int) < ((32 * (q + 1) : Nat) : Int) := by omega
      have hw2 : IntKind.i64.wrap (((32 * q + j : Nat) : Int) + 1) = ((32 * q + (j + 1) : Nat) : Int) := by rw [wrap_i64] <;> omega
      have htake : (c.drop (32 * q)).take (j + 1) = (c.drop (32 * q)).take j ++ [c[32 * q + j]] := by
        rw [List.take_succ_eq_append_getElem (by simp; omega)]; simp
      have hlen : ((c.drop (32 * q)).take j).length = j := by simp; omega
      have hnat : nat1 ((c.drop (32 * q)).take (j + 1)) = nat1 ((c.drop (32 * q)).take j) + (if c[32 * q + j] then 2 ^ j else 0) := by
        rw [htake, nat1_append, hlen]; simp only [nat1]; split <;> simp
      have hlt1 := nat1_lt ((c.drop (32 * q)).take j)
      rw [hlen] at hlt1
      have hp : (2 : Nat) ^ j * 2 ≤ 2 ^ 32 := by rw [← Nat.pow_succ]; exact Nat.pow_le_pow_right (by omega) (by omega)
      have hpw : IntKind.u32.wrap ((2 : Int) ^ j) = ((2 ^ j : Nat) : Int) := by
        rw [show ((2 : Int) ^ j) = ((2 ^ j : Nat) : Int) from by simp, wrap_u32] <;> omega
      have hadd : IntKind.u32.wrap (((nat1 ((c.drop (32 * q)).take j) : Nat) : Int) + ((2 ^ j : Nat) : Int)) = ((nat1 ((c.drop (32 * q)).take j) + 2 ^ j : Nat) : Int) := by rw [wrap_u32] <;> omega
      have hmul : IntKind.u32.wrap (((2 ^ j : Nat) : Int) * 2) = IntKind.u32.wrap ((2 : Int) ^ (j + 1)) := by rw [Int.pow_succ]; simp
      have := hrec (j + 1) (by omega) (by omega)
      rw [hnat] at this
      simp only [ag_zero, ag_1, ag_2, ag_3, ag_4, ag_5, len_enL, Option.bind_some, bin_lss, h1, decide_true, gk_tt, bin_add, hw, h2, condV_true, condA_true, joinPt, idx_enL h1', load_cptr, List.getElem?_cons_zero, hpw]
      cases hb : c[32 * q + j] with
      | true =>
        rw [hb] at this
        simp only [condA_true, bin_add, hadd, Option.bind_some, ag_zero, ag_1, ag_2, ag_3, ag_4, ag_5, Sh.gliderref01_Of_j3, bin_mul, hmul, hw2]
        simpa using this
      | false =>
        rw [hb] at this
        simp only [condA_false, ag_zero, ag_1, ag_2, ag_3, ag_4, ag_5, Sh.gliderref01_Of_j3, bin_mul, bin_add, hmul, hw2, Option.bind_some]
        simpa using this
    · have hj' : j = min 32 (c.length - 32 * q) := by omega
      have hx : nat1 ((c.drop (32 * q)).take j) = limbAt c q := by
        unfold limbAt
        by_cases h : j = 32
        · rw [h]
        · rw [List.take_of_length_le (by simp; omega), List.take_of_length_le (by simp; omega)]
      have tail : ((buildSl 1 [.int .u32 ((limbAt c q : Nat) : Int)]).bind fun x40 => bP H (retVH (appendA ty_uint32 1 4 (outS cU H o) x40 (outT cU ty_uint32 1 H o))) fun x41 H42 => (binA .none .add (.int .i64 ((32 * q : Nat) : Int)) (.int .i64 32)).bind fun x43 => rec [.sl (enL cB c) .no, x41, x43] H42)
          = rec [.sl (enL cB c) .no, outS cU H (o ++ [limbAt c q]), .int .i64 ((32 * (q + 1) : Nat) : Int)] (outT cU ty_uint32 1 H (o ++ [limbAt c q])) := by
        rw [build_U]
        simp only [Option.bind_some]
        rw [append_out (by simp) (by simp; omega) (by simp; omega)]
        simp only [retVH_some, bP_ret, bin_add, Option.bind_some, hw]
      rw [hx]
      by_cases h1 : ((32 * q + j : Nat) : Int) < (c.length : Int)
      · have h2 : ¬ ((32 * q + j : Nat) : Int) < ((32 * (q + 1) : Nat) : Int) := by omega
        simp only [ag_zero, ag_1, ag_2, ag_3, ag_4, ag_5, len_enL, Option.bind_some, bin_lss, h1, decide_true, gk_tt, bin_add, hw, h2, decide_false, condV_true, condA_false]
        simpa only [bin_add, hw, Option.bind_some] using tail
      · simp only [ag_zero, ag_1, ag_2, ag_3, ag_4, ag_5, len_enL, Option.bind_some, bin_lss, h1, decide_false, gk_ft, condV_false, condA_false]
        exact tail
  · have hq' : ¬ ((32 * n : Nat) : Int) < (c.length : Int) := by omega
    obtain ⟨G, hG⟩ := outT_eq (f := cU) (ty := ty_uint32) (sz := 1) H (limbsTo c n)
    unfold Sh.gliderref01_Of_l1
    simp only [ag_zero, ag_1, ag_2, outS_eq, hG, len_enL, Option.bind_some, bin_lss, hq', decide_false, condA_false, rPN_app, fall_sl, Option.map_some]
theorem q01_norm (l : List Nat) (tk : Tok) (H : AHeap) (hl : l.length ≤ 1099511627776) (hx : Lim l) : Sh.gliderref01_Norm (.sl (enL cU l) tk) H = some (.ret (.sl (enL cU (lims (val l))) .no), H) := by
  have hc := cutL_le (bitsAll l)
  rw [bitsAll_length] at hc
  unfold Sh.gliderref01_Norm
  rw [q01_bits l tk H (by omega) hx]
  simp only [bK_ret]
  rw [q01_of _ _ _ (by omega)]
  simp only [bK_ret, rKN_eq, forget_sl, nat1_cut, val_bits l hx]
theorem q01_right (l : List Nat) (tk : Tok) (H : AHeap) (hl : l.length ≤ 1099511627776) : Sh.gliderref01_Right (.sl (enL cU l) tk) H = some (.ret (.bool (rightB l)), H) := by
  unfold Sh.gliderref01_Right
  rcases snoc_cases l with rfl | ⟨l', x, rfl⟩
  · simp [rightB]
  · simp only [List.length_append, List.length_singleton] at hl
    have h1 : l'.length < (l' ++ [x]).length := by simp
    have h3 : IntKind.i64.wrap ((((l' ++ [x]).length : Nat) : Int) - 1) = (l'.length : Int) := by rw [wrap_i64] <;> simp <;> omega
    have hne : ((((l' ++ [x]).length : Nat) : Int) == 0) = false := by simp; omega
    have hb : ((x : Int) != 0) = (x != 0) := by rw [Bool.eq_iff_iff]; simp
    simp only [len_enL, Option.bind_some, bin_eql, hne, gk_ff, bin_sub, h3, idx_enL h1, load_cptr, List.getElem?_cons_zero, List.getElem_append_right (Nat.le_refl _), Nat.sub_self, List.getElem_cons_zero, bin_neq, condV_false, rK_eq, hb]
    simp [rightB]
theorem q01_cmp (a b : List Nat) (ta tb : Tok) (H : AHeap) (ha : a.length ≤ 1099511627776) (hb : b.length ≤ 1099511627776) (la : Lim a) (lb : Lim b) :
    Sh.gliderref01_Cmp (.sl (enL cU a) ta) (.sl (enL cU b) tb) H = some (.ret (.int .i64 (cmpI (val a) (val b))), H) := by
  have c1 := cutL_le (bitsAll a)
  have c2 := cutL_le (bitsAll b)
  rw [bitsAll_length] at c1 c2
  unfold Sh.gliderref01_Cmp
  rw [q01_bits a ta H (by omega) la]
  simp only [bK_ret, q01_bits b tb H (by omega) lb, len_enL, Option.bind_some, max_int]
  have hx : nat1 (cutL (bitsAll a)) = val a := by rw [nat1_cut, val_bits a la]
  have hy : nat1 (cutL (bitsAll b)) = val b := by rw [nat1_cut, val_bits b lb]
  rw [← hx, ← hy]
  generalize cutL (bitsAll a) = x at c1 ⊢
  generalize cutL (bitsAll b) = y at c2 ⊢
  have hw : IntKind.i64.wrap (max (x.length : Int) (y.length : Int) - 1) = ((max x.length y.length : Nat) : Int) - 1 := by rw [wrap_i64] <;> omega
  simp only [bin_sub, hw, Option.bind_some]
  have z : ∀ (c : List Bool) (m : Nat), c.length ≤ m → nat1 c / 2 ^ m = 0 := fun c m h => Nat.div_eq_of_lt (Nat.lt_of_lt_of_le (nat1_lt c) (Nat.pow_le_pow_right (by omega) h))
  refine loop_fun (σ := Nat) (fun i => i < 9223372036854775807 ∧ (nat1 x) / 2 ^ i = (nat1 y) / 2 ^ i) (fun i => [.sl (enL cB x) .no, .sl (enL cB y) .no, .int .i64 ((i : Int) - 1)]) (fun _ => H) (fun i => i) (fun _ => some (.ret (.int .i64 (cmpI (nat1 x) (nat1 y))), H)) (fun i rec hi hrec => ?_) (max x.length y.length) ⟨by omega, by rw [z _ _ (by omega), z _ _ (by omega)]⟩ (by omega)
  obtain ⟨hi, he⟩ := hi
  unfold Sh.gliderref01_Cmp_l1
  cases i with
  | zero =>
    have e : nat1 x = nat1 y := by simpa using he
    simp [e, cmpI]
  | succ i =>
    have hi0 : (((i + 1 : Nat) : Int) - 1) = (i : Int) := by omega
    have hge : (i : Int) ≥ 0 := by omega
    have hw : IntKind.i64.wrap ((i : Int) - 1) = (i : Int) - 1 := by rw [wrap_i64] <;> omega
    have ax : ∀ (c : List Bool) (H : AHeap), Sh.gliderref01_at (.sl (enL cB c) .no) (.int .i64 (i : Int)) H = some (.ret (.bool ((nat1 c).testBit i)), H) := fun c H => by rw [q01_at, Int.toNat_natCast, nat1_bit]; simp
    have tb : ∀ m : Nat, m.testBit i = decide (m / 2 ^ i % 2 = 1) := fun m => Nat.testBit_eq_decide_div_mod_eq
    have hs : ∀ m : Nat, m / 2 ^ (i + 1) = m / 2 ^ i / 2 := fun m => by rw [Nat.pow_succ, Nat.div_div_eq_div_mul]
    rw [hs, hs] at he
    have mono : ∀ p q : Nat, p ≤ q → p / 2 ^ i ≤ q / 2 ^ i := fun p q h => Nat.div_le_div_right h
    simp only [ag_zero, ag_1, ag_2, hi0, bin_geq, hge, decide_true, Option.bind_some, condA_true, ax, bK_ret, bne_bool]
    by_cases heq : (nat1 x) / 2 ^ i = (nat1 y) / 2 ^ i
    · have hbit : (nat1 x).testBit i = (nat1 y).testBit i := by rw [tb, tb, heq]
      simp only [hbit, bne_self_eq_false, condA_false, bin_sub, hw, Option.bind_some]
      exact hrec i ⟨by omega, heq⟩ (by omega)
    · have m1 := mono (nat1 x) (nat1 y)
      have m2 := mono (nat1 y) (nat1 x)
      rcases Nat.mod_two_eq_zero_or_one (nat1 x / 2 ^ i) with h1 | h1 <;> rcases Nat.mod_two_eq_zero_or_one (nat1 y / 2 ^ i) with h2 | h2
      · omega
      · have hlt : nat1 x < nat1 y := by
          rcases Nat.lt_or_ge (nat1 x) (nat1 y) with h | h
          · exact h
          · have := m2 h; omega
        simp [tb, h1, h2, cmpI, hlt]
      · have hlt : nat1 y < nat1 x := by
          rcases Nat.lt_or_ge (nat1 y) (nat1 x) with h | h
          · exact h
          · have := m1 h; omega
        have hn : ¬ nat1 x < nat1 y := by omega
        simp [tb, h1, h2, cmpI, hlt, hn]
      · omega
end Go.Gm
/- Chapter 1 of the document: sums and differences. -/
namespace Go.Gm
set_option linter.unusedVariables false
set_option linter.unusedSimpArgs false
theorem mod_step (m : List Bool) (i : Nat) : nat1 m % 2 ^ (i + 1) = nat1 m % 2 ^ i + 2 ^ i * bn (m.getD i false) := by
  rw [nat1_bit, Nat.testBit_eq_decide_div_mod_eq, Nat.pow_succ, Nat.mod_mul]
  congr 2
  rcases Nat.mod_two_eq_zero_or_one (nat1 m / 2 ^ i) with h | h <;> simp [h, bn]
theorem q01_add (a b : List Nat) (ta tb : Tok) (H : AHeap) (ha : a.length ≤ 1099511627776) (hb : b.length ≤ 1099511627776) (la : Lim a) (lb : Lim b) :
    Sh.gliderref01_Add (.sl (enL cU a) ta) (.sl (enL cU b) tb) H = some (.ret (.sl (enL cU (lims (val a + val b))) .no), H) := by
  have c1 := cutL_le (bitsAll a)
  have c2 := cutL_le (bitsAll b)
  rw [bitsAll_length] at c1 c2
  unfold Sh.gliderref01_Add
  have hx : nat1 (cutL (bitsAll a)) = val a := by rw [nat1_cut, val_bits a la]
  have hy : nat1 (cutL (bitsAll b)) = val b := by rw [nat1_cut, val_bits b lb]
  simp only [q01_bits a ta H (by omega) la, bP_ret, q01_bits b tb H (by omega) lb]
  rw [← hx, ← hy]
  generalize cutL (bitsAll a) = x at c1 ⊢
  generalize cutL (bitsAll b) = y at c2 ⊢
  refine loop_fun (σ := List Bool × Bool) (fun s => s.1.length ≤ max x.length y.length + 1 ∧ nat1 s.1 + 2 ^ s.1.length * bn s.2 = nat1 x % 2 ^ s.1.length + nat1 y % 2 ^ s.1.length) (fun s => [.sl (enL cB x) .no, .sl (enL cB y) .no, outS cB H s.1, .bool s.2, .int .i64 (s.1.length : Int)]) (fun s => outT cB ty_bool 1 H s.1) (fun s => max x.length y.length + 1 - s.1.length)
    (fun _ => some (.ret (.sl (enL cU (lims (nat1 x + nat1 y))) .no), H)) (fun s rec hs hrec => ?_) ([], false) ⟨by simp, by simp [nat1, bn, Nat.mod_one]⟩ (by simp; omega)
  obtain ⟨o, c⟩ := s
  obtain ⟨ho, he⟩ := hs
  simp only at ho he hrec ⊢
  unfold Sh.gliderref01_Add_l1
  simp only [ag_zero, ag_1, ag_2, ag_3, ag_4, len_enL, Option.bind_some, max_int, bin_leq]
  by_cases h : o.length ≤ max x.length y.length
  · have h' : ((o.length : Int) ≤ max (x.length : Int) (y.length : Int)) := by omega
    have hw : IntKind.i64.wrap ((o.length : Int) + 1) = ((o.length + 1 : Nat) : Int) := by rw [wrap_i64] <;> omega
    have ax : ∀ (m : List Bool) (H : AHeap), Sh.gliderref01_at (.sl (enL cB m) .no) (.int .i64 (o.length : Int)) H = some (.ret (.bool (m.getD o.length false)), H) := fun m H => by rw [q01_at, Int.toNat_natCast]; simp
    have app : ∀ s : Bool, appendA ty_bool 1 1 (outS cB H o) (.sl (enL cB [s]) .tight) (outT cB ty_bool 1 H o) = some (outS cB H (o ++ [s]), outT cB ty_bool 1 H (o ++ [s])) := fun s => append_out (by simp) (by simp; omega) (by simp; omega)
    have w1 : IntKind.i64.wrap (0 + 1) = 1 := by decide
    have w2 : IntKind.i64.wrap (1 + 1) = 2 := by decide
    have w3 : IntKind.i64.wrap (2 + 1) = 3 := by decide
    have fin : rec [.sl (enL cB x) .no, .sl (enL cB y) .no, outS cB H (o ++ [(bn (x.getD o.length false) + bn (y.getD o.length false) + bn c) % 2 == 1]), .bool (decide (1 < bn (x.getD o.length false) + bn (y.getD o.length false) + bn c)), .int .i64 ((o.length + 1 : Nat) : Int)] (outT cB ty_bool 1 H (o ++ [(bn (x.getD o.length false) + bn (y.getD o.length false) + bn c) % 2 == 1])) = some (.ret (.sl (enL cU (lims (nat1 x + nat1 y))) .no), H) := by
      have := hrec (o ++ [(bn (x.getD o.length false) + bn (y.getD o.length false) + bn c) % 2 == 1], decide (1 < bn (x.getD o.length false) + bn (y.getD o.length false) + bn c)) ⟨by simp; omega, ?_⟩ (by simp; omega)
      · simpa using this
      · simp only [List.length_append, List.length_singleton]
        rw [mod_step x, mod_step y, nat1_append, Nat.pow_succ]
        generalize x.getD o.length false = p
        generalize y.getD o.length false = q
        generalize 2 ^ o.length = z at he ⊢
        cases p <;> cases q <;> cases c <;> simp [bn, nat1] at he ⊢ <;> omega
    simp only [h', decide_true, condA_true, joinPt, ax, bP_ret]
    revert fin
    generalize x.getD o.length false = p
    simp only [Sh.gliderref01_Add_j2, joinPt, ag_zero, ag_1, ag_2, ag_3, ag_4, ag_5, ax, bP_ret]
    generalize y.getD o.length false = q
    intro fin
    rw [← fin]
    cases p <;> cases q <;> cases c <;>
      simp only [condA_true, condA_false, bin_add, w1, w2, w3, Option.bind_some, ag_zero, ag_1, ag_2, ag_3, ag_4, ag_5, Sh.gliderref01_Add_j3, Sh.gliderref01_Add_j4, joinPt, bin_rem (show (2 : Int) ≠ 0 by decide), bin_eql, build_B, bin_gtr, app, retVH_some, bP_ret, hw, bn] <;> rfl
  · have h' : ¬ ((o.length : Int) ≤ max (x.length : Int) (y.length : Int)) := by omega
    obtain ⟨G, hG⟩ := outT_eq (f := cB) (ty := ty_bool) (sz := 1) H o
    have bx := nat1_lt x
    have by' := nat1_lt y
    have px : 2 ^ x.length * 2 ≤ 2 ^ o.length := by rw [← Nat.pow_succ]; exact Nat.pow_le_pow_right (by omega) (by omega)
    have py : 2 ^ y.length * 2 ≤ 2 ^ o.length := by rw [← Nat.pow_succ]; exact Nat.pow_le_pow_right (by omega) (by omega)
    rw [Nat.mod_eq_of_lt (by omega), Nat.mod_eq_of_lt (by omega)] at he
    have hc : c = false := by
      cases c with
      | false => rfl
      | true => exfalso; simp only [bn, if_true, Nat.mul_one] at he; omega
    subst hc
    have hsum : nat1 o = nat1 x + nat1 y := by simpa [bn] using he
    simp only [h', decide_false, condA_false, outS_eq, hG, q01_of o _ _ (by omega), bP_ret, rPN_app, fall_sl, Option.map_some, hsum]
/-- A difference, where it may be. -/
theorem q01_sub (a b : List Nat) (ta tb : Tok) (H : AHeap) (ha : a.length ≤ 1099511627776) (hb : b.length ≤ 1099511627776) (la : Lim a) (lb : Lim b) :
    Sh.gliderref01_Sub (.sl (enL cU a) ta) (.sl (enL cU b) tb) H = some (.ret (.tup [.sl (enL cU (if val b ≤ val a then lims (val a - val b) else [])) .no, .bool (decide (val b ≤ val a))]), H) := by
  have c1 := cutL_le (bitsAll a)
  rw [bitsAll_length] at c1
  unfold Sh.gliderref01_Sub
  simp only [q01_cmp a b ta tb H ha hb la lb, bP_ret, bin_lss, Option.bind_some]
  by_cases hv : val b ≤ val a
  · have hc : ¬ (cmpI (val a) (val b) < 0) := by unfold cmpI; split <;> (try split) <;> omega
    have hx : nat1 (cutL (bitsAll a)) = val a := by rw [nat1_cut, val_bits a la]
    have hy : nat1 (cutL (bitsAll b)) = val b := by rw [nat1_cut, val_bits b lb]
    simp only [hc, decide_false, condA_false, q01_bits a ta H (by omega) la, q01_bits b tb H (by omega) lb, bP_ret, hv, if_true, decide_true]
    rw [← hx, ← hy] at hv ⊢
    generalize cutL (bitsAll a) = x at c1 hv ⊢
    generalize cutL (bitsAll b) = y at hv ⊢
    refine loop_fun (σ := List Bool × Bool) (fun s => s.1.length ≤ x.length ∧ nat1 s.1 + nat1 y % 2 ^ s.1.length = nat1 x % 2 ^ s.1.length + 2 ^ s.1.length * bn s.2) (fun s => [.sl (enL cB x) .no, .sl (enL cB y) .no, outS cB H s.1, .int .i64 (if s.2 then 1 else 0), .int .i64 (s.1.length : Int)]) (fun s => outT cB ty_bool 1 H s.1) (fun s => x.length - s.1.length)
      (fun _ => some (.ret (.tup [.sl (enL cU (lims (nat1 x - nat1 y))) .no, .bool true]), H)) (fun s rec hs hrec => ?_) ([], false) ⟨by simp, by simp [nat1, bn, Nat.mod_one]⟩ (by simp; omega)
    obtain ⟨o, c⟩ := s
    obtain ⟨ho, he⟩ := hs
    simp only at ho he hrec ⊢
    unfold Sh.gliderref01_Sub_l1
    simp only [ag_zero, ag_1, ag_2, ag_3, ag_4, len_enL, Option.bind_some, bin_lss]
    by_cases h : o.length < x.length
    · have h' : ((o.length : Int) < (x.length : Int)) := by omega
      have hw : IntKind.i64.wrap ((o.length : Int) + 1) = ((o.length + 1 : Nat) : Int) := by rw [wrap_i64] <;> omega
      have ax : ∀ (m : List Bool) (H : AHeap), Sh.gliderref01_at (.sl (enL cB m) .no) (.int .i64 (o.length : Int)) H = some (.ret (.bool (m.getD o.length false)), H) := fun m H => by rw [q01_at, Int.toNat_natCast]; simp
      have app : ∀ s : Bool, appendA ty_bool 1 1 (outS cB H o) (.sl (enL cB [s]) .tight) (outT cB ty_bool 1 H o) = some (outS cB H (o ++ [s]), outT cB ty_bool 1 H (o ++ [s])) := fun s => append_out (by simp) (by simp; omega) (by simp; omega)
      have n0 : unA .neg (.int .i64 0) = some (.int .i64 0) := by rw [show unA .neg (.int .i64 0) = some (.int .i64 (IntKind.i64.wrap (0 - 0))) from rfl, show IntKind.i64.wrap (0 - 0) = 0 from by decide]
      have n1 : unA .neg (.int .i64 1) = some (.int .i64 (-1)) := by rw [show unA .neg (.int .i64 1) = some (.int .i64 (IntKind.i64.wrap (0 - 1))) from rfl, show IntKind.i64.wrap (0 - 1) = -1 from by decide]
      have w1 : IntKind.i64.wrap (0 + 1) = 1 := by decide
      have w2 : IntKind.i64.wrap (-1 + 1) = 0 := by decide
      have w3 : IntKind.i64.wrap (0 - 1) = -1 := by decide
      have w4 : IntKind.i64.wrap (1 - 1) = 0 := by decide
      have w5 : IntKind.i64.wrap (-1 - 1) = -2 := by decide
      have w6 : IntKind.i64.wrap (-1 + 2) = 1 := by decide
      have w7 : IntKind.i64.wrap (-2 + 2) = 0 := by decide
      have fin : rec [.sl (enL cB x) .no, .sl (enL cB y) .no, outS cB H (o ++ [subS (x.getD o.length false) (y.getD o.length false) c]), .int .i64 (if subC (x.getD o.length false) (y.getD o.length false) c then 1 else 0), .int .i64 ((o.length + 1 : Nat) : Int)] (outT cB ty_bool 1 H (o ++ [subS (x.getD o.length false) (y.getD o.length false) c])) = some (.ret (.tup [.sl (enL cU (lims (nat1 x - nat1 y))) .no, .bool true]), H) := by
        have := hrec (o ++ [subS (x.getD o.length false) (y.getD o.length false) c], subC (x.getD o.length false) (y.getD o.length false) c) ⟨by simp; omega, ?_⟩ (by simp; omega)
        · simpa using this
        · simp only [List.length_append, List.length_singleton]
          rw [mod_step x, mod_step y, nat1_append, Nat.pow_succ]
          generalize x.getD o.length false = p
          generalize y.getD o.length false = q
          generalize 2 ^ o.length = z at he ⊢
          cases p <;> cases q <;> cases c <;> simp [bn, nat1, subS, subC, subN] at he ⊢ <;> omega
      simp only [h', decide_true, condA_true, joinPt, ax, bP_ret]
      revert fin
      generalize x.getD o.length false = p
      simp only [Sh.gliderref01_Sub_j2, joinPt, ag_zero, ag_1, ag_2, ag_3, ag_4, ag_5, ax, bP_ret]
      generalize y.getD o.length false = q
      intro fin
      rw [← fin]
      cases p <;> cases q <;> cases c <;>
        simp [n0, n1, w1, w2, w3, w4, w5, w6, w7, Sh.gliderref01_Sub_j3, Sh.gliderref01_Sub_j4, joinPt, build_B, app, hw, subS, subC, subN]
    · have h' : ¬ ((o.length : Int) < (x.length : Int)) := by omega
      obtain ⟨G, hG⟩ := outT_eq (f := cB) (ty := ty_bool) (sz := 1) H o
      have bx := nat1_lt x
      have bo := nat1_lt o
      have hxi : x.length = o.length := by omega
      rw [hxi] at bx
      rw [Nat.mod_eq_of_lt bx, Nat.mod_eq_of_lt (by omega)] at he
      have hc : c = false := by
        cases c with
        | false => rfl
        | true => exfalso; simp only [bn, if_true, Nat.mul_one] at he; omega
      subst hc
      have hsum : nat1 o = nat1 x - nat1 y := by simp [bn] at he; omega
      simp only [h', decide_false, condA_false, outS_eq, hG, q01_of o _ _ (by omega), bP_ret, rPN_app, fall_tup, fparts_cons, fparts_nil, fpart_sl, fpart_bool, Option.bind_some, Option.map_some, hsum]
  · have hc : cmpI (val a) (val b) < 0 := by unfold cmpI; rw [if_pos (by omega)]; decide
    simp [hc, hv, enL_nil]
end Go.Gm
/- Chapter 2 of the document: whole numbers with a sign. -/
namespace Go.Gm
set_option linter.unusedVariables false
set_option linter.unusedSimpArgs false
/-- A whole number as the program has it; the one way. -/
def bigC (z : Int) : List AVal := [.bool (decide (z < 0)), .sl (enL cU (lims z.natAbs)) .no]
def big (z : Int) : AVal := .agg (bigC z)
def LB (z : Int) : Prop := (lims z.natAbs).length ≤ 549755813888
theorem bigC_scal (z : Int) : (bigC z).all AVal.isScal = true := by simp [bigC]
@[simp] theorem bigC_g0 (z : Int) (h : 0 < (bigC z).length) : (bigC z)[0] = .bool (decide (z < 0)) := (rfl)
@[simp] theorem bigC_g1 (z : Int) (h : 1 < (bigC z).length) : (bigC z)[1] = .sl (enL cU (lims z.natAbs)) .no := (rfl)
@[simp] theorem bigC_0 (z : Int) : (bigC z)[0]? = some (.bool (decide (z < 0))) := (rfl)
@[simp] theorem bigC_1 (z : Int) : (bigC z)[1]? = some (.sl (enL cU (lims z.natAbs)) .no) := (rfl)
theorem bigC_len (z : Int) : (bigC z).length = 2 := rfl
@[simp] theorem big_acells (z : Int) : (big z).acells = some (bigC z) := acells_agg (bigC_scal z)
theorem big_sgn (neg : Bool) (n : Nat) : [AVal.bool (sgn neg n), .sl (enL cU (lims n)) .no] = bigC (if neg then -(n : Int) else n) := by
  unfold bigC
  have e1 : sgn neg n = decide ((if neg then -(n : Int) else (n : Int)) < 0) := by
    unfold sgn
    cases neg with
    | false => simp
    | true =>
      by_cases h : n = 0
      · subst h; rfl
      · have : (-(n : Int)) < 0 := by omega
        simp [h, this]; omega
  have e2 : (if neg then -(n : Int) else (n : Int)).natAbs = n := by cases neg <;> simp
  rw [e1, e2]
theorem limsLen_pos (n : Nat) : (decide (((lims n).length : Int) > 0)) = decide (n ≠ 0) := by
  by_cases h : n = 0
  · subst h; rw [lims_zero]; rfl
  · have := List.length_pos_iff.2 (lims_ne h)
    have h1 : ((lims n).length : Int) > 0 := by omega
    rw [decide_eq_true h1, decide_eq_true h]
@[simp] theorem fcells_big {H : AHeap} {n d : Nat} {z : Int} : fcells H n (d + 2) (bigC z) = some (bigC z) := by simp [bigC]
@[simp] theorem fall_big {H : AHeap} {n d : Nat} {z : Int} : fall H n (d + 3) (big z) = some (big z) := by simp [big]
@[simp] theorem fpart_big {H : AHeap} {n d : Nat} {z : Int} : fpart H n (d + 3) (big z) = some (big z) := by simp [big]
@[simp] theorem forget_big {z : Int} : forget (big z) = big z := by simp [big, bigC]
@[simp] theorem bigC_length (z : Int) : (bigC z).length = 2 := (rfl)
@[simp] theorem agg_bigC (z : Int) : AVal.agg (bigC z) = big z := (rfl)
@[simp] theorem putN_big (cs : List AVal) (z : Int) (h : cs.length = 2) : putN cs 0 2 (bigC z) = bigC z := putN_all h
theorem boxBig (z : Int) (H : AHeap) : boxA true 2 (big z) H = some (.ptr H.length 0 0, H ++ [.cel 0 (bigC z)]) := box_agg (bigC_scal z) rfl
theorem q02_sign (neg : Bool) (l : List Nat) (tk : Tok) (H : AHeap) (hl : l.length ≤ 1099511627776) (hx : Lim l) : Sh.gliderref02_sign (.bool neg) (.sl (enL cU l) tk) H = some (.ret (big (if neg then -(val l : Int) else val l)), H) := by
  unfold Sh.gliderref02_sign big
  rw [← big_sgn]
  have hp := limsLen_pos (val l)
  cases neg with
  | false => simp [q01_norm _ _ _ hl hx, buildA, fillA, putN, sgn, acells_agg]
  | true =>
    simp only [gk_tt, condV_true, Option.bind_some, len_enL, bin_gtr, hp, sgn, Bool.true_and, alloc_eq (cs := [.bool false, .sl [] .tight]) rfl, afterA_some, q01_norm _ _ _ hl hx, bP_ret]
    simp [buildA, fillA, putN, acells_agg]
theorem q02_minus (neg : Bool) (l : List Nat) (tk : Tok) (H : AHeap) (hl : l.length ≤ 1099511627776) (hx : Lim l) : Sh.gliderref02_Minus (.agg [.bool neg, .sl (enL cU l) tk]) H = some (.ret (big (-(bigI neg l))), H) := by
  have ez : (if neg = false then -(val l : Int) else (val l : Int)) = -(bigI neg l) := by cases neg <;> simp [bigI]
  unfold Sh.gliderref02_Minus
  simp [box_agg, q02_sign _ l tk _ hl hx, ez]
theorem bigI_of (z : Int) : bigI (decide (z < 0)) (lims z.natAbs) = z := by
  unfold bigI
  rw [val_lims]
  by_cases h : z < 0
  · simp [h]; omega
  · simp [h]; omega
theorem bigI_abs (neg : Bool) (l : List Nat) : (bigI neg l).natAbs = val l := by cases neg <;> simp [bigI]
theorem q02_add (n1 n2 : Bool) (l1 l2 : List Nat) (t1 t2 : Tok) (H : AHeap) (h1 : l1.length ≤ 549755813888) (h2 : l2.length ≤ 549755813888) (x1 : Lim l1) (x2 : Lim l2) :
    Sh.gliderref02_Add (.agg [.bool n1, .sl (enL cU l1) t1]) (.agg [.bool n2, .sl (enL cU l2) t2]) H = some (.ret (big (bigI n1 l1 + bigI n2 l2)), H) := by
  have v1 := val_lt l1 x1
  have v2 := val_lt l2 x2
  have p1 := pow_le32 (show l1.length ≤ max l1.length l2.length by omega)
  have p2 := pow_le32 (show l2.length ≤ max l1.length l2.length by omega)
  have p3 : (4294967296 : Nat) ^ (max l1.length l2.length + 1) = 4294967296 ^ max l1.length l2.length * 4294967296 := Nat.pow_succ _ _
  have sg : ∀ (neg : Bool) (m : Nat) (tk : Tok) (H : AHeap), m < 4294967296 ^ (max l1.length l2.length + 1) → Sh.gliderref02_sign (.bool neg) (.sl (enL cU (lims m)) tk) H = some (.ret (big (if neg then -(m : Int) else m)), H) := by
    intro neg m tk H hm
    have := q02_sign neg (lims m) tk H (by have := lims_len hm; omega) (lim_lims m)
    rwa [val_lims] at this
  unfold Sh.gliderref02_Add
  by_cases hn : n1 = n2
  · subst hn
    have ez : (if n1 = true then -((val l1 : Int) + (val l2 : Int)) else ((val l1 : Int) + (val l2 : Int))) = bigI n1 l1 + bigI n1 l2 := by cases n1 <;> simp [bigI] <;> omega
    simp [Nat.add_assoc, box_agg, beq_bool, bC_some, q01_add _ _ _ _ _ (show l1.length ≤ 1099511627776 by omega) (show l2.length ≤ 1099511627776 by omega) x1 x2, sg n1 (val l1 + val l2) _ _ (by omega), ez]
  · have hb : (n1 == n2) = false := by simpa using hn
    by_cases hv : val l2 ≤ val l1
    · have ez : (if n1 = true then -((val l1 - val l2 : Nat) : Int) else ((val l1 - val l2 : Nat) : Int)) = bigI n1 l1 + bigI n2 l2 := by cases n1 <;> cases n2 <;> simp [bigI] at hn ⊢ <;> omega
      simp [Nat.add_assoc, box_agg, beq_bool, hb, q01_sub _ _ _ _ _ (show l1.length ≤ 1099511627776 by omega) (show l2.length ≤ 1099511627776 by omega) x1 x2, hv, sg n1 (val l1 - val l2) _ _ (by omega), ez]
    · have ez : (if n2 = true then -((val l2 - val l1 : Nat) : Int) else ((val l2 - val l1 : Nat) : Int)) = bigI n1 l1 + bigI n2 l2 := by cases n1 <;> cases n2 <;> simp [bigI] at hn ⊢ <;> omega
      have hv' : val l1 ≤ val l2 := by omega
      simp [Nat.add_assoc, box_agg, beq_bool, hb, q01_sub _ _ _ _ _ (show l1.length ≤ 1099511627776 by omega) (show l2.length ≤ 1099511627776 by omega) x1 x2, q01_sub _ _ _ _ _ (show l2.length ≤ 1099511627776 by omega) (show l1.length ≤ 1099511627776 by omega) x2 x1, hv, hv', sg n2 (val l2 - val l1) _ _ (by omega), ez]
theorem big_eq (z : Int) : big z = .agg [.bool (decide (z < 0)), .sl (enL cU (lims z.natAbs)) .no] := rfl
theorem q02_addZ (a b : Int) (H : AHeap) (ha : LB a) (hb : LB b) : Sh.gliderref02_Add (big a) (big b) H = some (.ret (big (a + b)), H) := by
  rw [big_eq a, big_eq b, q02_add _ _ _ _ _ _ _ ha hb (lim_lims _) (lim_lims _), bigI_of, bigI_of]
theorem q02_minusZ (a : Int) (H : AHeap) (ha : LB a) : Sh.gliderref02_Minus (big a) H = some (.ret (big (-a)), H) := by
  rw [big_eq a, q02_minus _ _ _ _ (by unfold LB at ha; omega) (lim_lims _), bigI_of]
theorem LB.neg {a : Int} (h : LB a) : LB (-a) := by unfold LB at *; rwa [Int.natAbs_neg]
theorem LB.of {a : Int} {k : Nat} (h : a.natAbs < 4294967296 ^ k) (hk : k ≤ 549755813888) : LB a := Nat.le_trans (lims_len h) hk
theorem q02_subZ (a b : Int) (H : AHeap) (ha : LB a) (hb : LB b) : Sh.gliderref02_Sub (big a) (big b) H = some (.ret (big (a - b)), H) := by
  unfold Sh.gliderref02_Sub
  simp [Nat.add_assoc, boxBig, bC_some, q02_minusZ _ _ hb, q02_addZ _ _ _ ha hb.neg, Int.sub_eq_add_neg]
def cmpZ (a b : Int) : Int := if a < b then -1 else if a = b then 0 else 1
theorem q02_cmpZ (a b : Int) (H : AHeap) (ha : LB a) (hb : LB b) : Sh.gliderref02_Cmp (big a) (big b) H = some (.ret (.int .i64 (cmpZ a b)), H) := by
  unfold Sh.gliderref02_Cmp
  simp only [boxBig, afterA_some, List.append_assoc, List.singleton_append]
  simp [Nat.add_assoc, boxBig, q02_subZ _ _ _ ha hb]
  unfold cmpZ
  by_cases h0 : a = b
  · subst h0; simp [lims_zero]
  · have hne : lims (a - b).natAbs ≠ [] := lims_ne (by omega)
    have hp := List.length_pos_iff.2 hne
    have hz : (((lims (a - b).natAbs).length : Int) == 0) = false := by rw [beq_eq_false_iff_ne]; omega
    have hz2 : ¬ ((lims (a - b).natAbs).length : Int) = 0 := by omega
    have hz3 : ¬ lims (a - b).natAbs = [] := hne
    by_cases hn : a < b
    · have : a - b < 0 := by omega
      simp [hz, hz2, hz3, hn, this]
    · have : ¬ (a - b < 0) := by omega
      simp [hz, hz2, hz3, hn, this, h0]
end Go.Gm
/- Chapters 1 and 2 of the document: powers of two; whole numbers of the machine's. -/
namespace Go.Gm
set_option linter.unusedVariables false
set_option linter.unusedSimpArgs false
theorem repl1 (n : Nat) (v : AVal) : repl n [v] = List.replicate n v := by
  induction n with
  | zero => rfl
  | succ n ih => simp only [repl, List.replicate_succ, List.flatten_cons] at ih ⊢; rw [ih]; rfl
theorem chunk1 (n : Nat) (v : AVal) : chunk 1 n (List.replicate n v) = List.replicate n [v] := by
  induction n with
  | zero => rfl
  | succ n ih => simp only [chunk, List.replicate_succ, List.take_succ_cons, List.take_zero, List.drop_succ_cons, List.drop_zero, ih]
theorem make_one {bytes n : Nat} {v : AVal} {H : AHeap} (hv : v.isScal = true) (hb : n * bytes ≤ 140737488355328) (hn : n ≤ 140737488355328) : makeA 1 bytes (some [v]) (.int .i64 (n : Int)) (.int .i64 (n : Int)) H = some (.ms H.length 0 0 n n 1 true, H ++ [.cel 0 (List.replicate n v)]) := by
  unfold makeA
  simp only [Option.bind_some]
  have h1 : ((n : Int) * (bytes : Int)) ≤ 140737488355328 := by have : ((n * bytes : Nat) : Int) ≤ 140737488355328 := by omega
                                                                simpa using this
  rw [if_pos ⟨by simp [hv], rfl, by omega, by omega, h1, by omega⟩, repl1]
  simp
theorem elems_ms {H : AHeap} {n : Nat} : elemsA 1 (.ms H.length 0 0 n n 1 true) (H ++ [.cel 0 (List.replicate n (.bool false))]) = some (enL cB (List.replicate n false)) := by
  have hm : (List.replicate n (AVal.bool false)).map immC = List.replicate n (.bool false) := by simp [immC]
  have hi : (List.replicate n (AVal.bool false)).all isImm = true := by simp [isImm]
  simp only [elemsA, if_true, get_app0, get_zero, Option.bind_some, List.drop_zero, Nat.zero_add, Nat.mul_one, List.length_replicate, List.take_of_length_le (show (List.replicate n (AVal.bool false)).length ≤ n by simp), hm, hi, Nat.le_refl, and_self, chunk1]
  simp [enL]
theorem q01_of_ms (B : AHeap) (n : Nat) (hn : n ≤ 140737488355328) : Sh.gliderref01_Of (.ms B.length 0 0 n n 1 true) (B ++ [.cel 0 (List.replicate n (.bool false))]) = some (.ret (.sl [] .no), B ++ [.cel 0 (List.replicate n (.bool false))]) := by
  unfold Sh.gliderref01_Of Sh.gliderref01_cut
  have hc : ∀ K : AHeap, loopGen (fun rec1 vs H1 => Sh.gliderref01_cut_l1 K rec1 (ag vs 0) H1) FUEL [.ms B.length 0 0 n n 1 true] (B ++ [.cel 0 (List.replicate n (.bool false))])
      = some (.ret (.ms B.length 0 0 0 n 1 true), B ++ [.cel 0 (List.replicate n (.bool false))]) := by
    intro K
    refine loop_fun (σ := Nat) (fun k => k ≤ n) (fun k => [.ms B.length 0 0 k n 1 true]) (fun _ => B ++ [.cel 0 (List.replicate n (.bool false))]) (fun k => k) (fun _ => some (.ret (.ms B.length 0 0 0 n 1 true), B ++ [.cel 0 (List.replicate n (.bool false))])) (fun k rec hk hrec => ?_) n (Nat.le_refl _) (by omega)
    unfold Sh.gliderref01_cut_l1
    cases k with
    | zero => simp [forget, fgtA, fgt]
    | succ k =>
      have hpos : ((k + 1 : Nat) : Int) > 0 := by omega
      have hw : IntKind.i64.wrap (((k + 1 : Nat) : Int) - 1) = (k : Int) := by rw [wrap_i64] <;> omega
      have hidx : idxSl 1 (.ms B.length 0 0 (k + 1) n 1 true) (.int .i64 (k : Int)) = some (.ptr B.length 0 k) := by
        unfold idxSl
        simp only []
        rw [if_pos ⟨trivial, by omega, by omega⟩]
        simp
      have hload : loadA false 1 (.ptr B.length 0 k) (B ++ [.cel 0 (List.replicate n (.bool false))]) = some (.bool false) := by
        rw [load_app0, load_zero, List.getElem?_replicate, if_pos (by omega)]
      have hsl : sliceSl 1 (.ms B.length 0 0 (k + 1) n 1 true) none (some (.int .i64 (k : Int))) none = some (.ms B.length 0 0 k n 1 true) := by
        have : (0 : Int) ≤ (k : Int) := by omega
        simp only [sliceSl, boundA, Option.bind_some, this, if_true, Int.toNat_natCast]
        rw [if_pos ⟨trivial, by omega, by omega, by omega⟩]
        simp
      simp only [ag_zero, len_ms, Option.bind_some, bin_gtr, hpos, decide_true, gk_tt, bin_sub, hw, hidx, hload, un_not, condV_true, Bool.not_false, condA_true, hsl]
      exact hrec k (by omega) (by omega)
  rw [hc]
  simp only [bP_ret]
  rw [loop_turn fuel_pos]
  unfold Sh.gliderref01_Of_l1
  simp
theorem q01_shl (l : List Nat) (tk : Tok) (m : Nat) (H : AHeap) (hm : m ≤ 10000) (hl : l.length ≤ 549755813888) (hx : Lim l) :
    Sh.gliderref01_Shl (.sl (enL cU l) tk) (.int .i64 (m : Int)) H = some (.ret (.sl (enL cU (lims (2 ^ m * val l))) .no), H) := by
  unfold Sh.gliderref01_Shl
  have h0 : ¬ (m : Int) < 0 := by omega
  have h1 : ¬ (m : Int) > 10000 := by omega
  have hc := cutL_le (bitsAll l)
  rw [bitsAll_length] at hc
  simp only [bin_lss, Option.bind_some, decide_eq_false h0, gk_ff, bin_gtr, decide_eq_false h1, condV_false, condA_false, q01_bits l tk H (by omega) hx, bindN_ret, make_one (bytes := 1) (v := .bool false) rfl (show m * 1 ≤ 140737488355328 by omega) (by omega), afterA_some]
  by_cases hv : val l = 0
  · have e : cutL (bitsAll l) = [] := cutL_nat0 (by rw [val_bits l hx]; exact hv)
    rw [e, enL_nil, append_nothing (by rw [elems_ms]; rfl)]
    simp [q01_of_ms H m (by omega), hv, lims_zero, enL_nil]
  · have hne : cutL (bitsAll l) ≠ [] := fun e => hv (by rw [← val_bits l hx, ← nat1_cut, e]; rfl)
    have ha : appendA ty_bool 1 1 (.ms H.length 0 0 m m 1 true) (.sl (enL cB (cutL (bitsAll l))) .no) (H ++ [.cel 0 (List.replicate m (.bool false))])
        = some (.sl (enL cB (List.replicate m false ++ cutL (bitsAll l))) (.own (H.length + 1)), H ++ [.cel 0 (List.replicate m (.bool false))] ++ [.tok (m + (cutL (bitsAll l)).length) ty_bool 1]) := by
      have hl0 : (enL cB (cutL (bitsAll l))).length ≠ 0 := by simpa using hne
      unfold appendA
      rw [show elemsA 1 (.sl (enL cB (cutL (bitsAll l))) .no) (H ++ [.cel 0 (List.replicate m (.bool false))]) = some (enL cB (cutL (bitsAll l))) from by simp [elemsA, all_enL], elems_ms]
      simp only [Option.bind_some]
      rw [if_neg hl0, if_pos (by simp; omega), if_pos (by simp; exact List.length_pos_iff.2 hne)]
      simp [enL_append]
    rw [ha]
    simp only [retVH_some, bindN_ret, List.append_assoc]
    rw [q01_of _ _ _ (by simp; omega)]
    simp only [bindN_ret, rPN_app, fall_sl, Option.map_some, nat1_repl, nat1_cut, val_bits l hx]
theorem q02_shl (z : Int) (m : Nat) (H : AHeap) (hm : m ≤ 10000) (hz : LB z) (hz2 : LB (z * 2 ^ m)) :
    Sh.gliderref02_Shl (big z) (.int .i64 (m : Int)) H = some (.ret (big (z * 2 ^ m)), H) := by
  have e : (z * 2 ^ m).natAbs = 2 ^ m * z.natAbs := by rw [Int.natAbs_mul, Int.natAbs_pow, Nat.mul_comm]; rfl
  have hp : (0 : Int) < 2 ^ m := Int.pow_pos (by omega)
  have hs : ∀ tk H, Sh.gliderref02_sign (.bool (decide (z < 0))) (.sl (enL cU (lims (2 ^ m * z.natAbs))) tk) H = some (.ret (big (z * 2 ^ m)), H) := by
    intro tk H
    rw [q02_sign _ _ _ _ (by rw [← e]; unfold LB at hz2; omega) (lim_lims _), val_lims]
    congr 3
    have : ((2 ^ m * z.natAbs : Nat) : Int) = 2 ^ m * (z.natAbs : Int) := by simp
    by_cases h : z < 0
    · simp only [h, decide_true, if_true, this]
      rw [show ((z.natAbs : Nat) : Int) = -z from by omega, Int.mul_neg, Int.neg_neg, Int.mul_comm]
    · simp only [h, decide_false, Bool.false_eq_true, if_false, this]
      rw [show ((z.natAbs : Nat) : Int) = z from by omega, Int.mul_comm]
  unfold Sh.gliderref02_Shl
  simp [boxBig, bC_some, q01_shl _ _ _ _ hm hz (lim_lims _), val_lims, hs]
theorem wrap_u64n {n : Int} (h0 : -18446744073709551616 ≤ n) (h : n < 0) : IntKind.u64.wrap n = n + 18446744073709551616 := by
  have h1 : IntKind.u64.bits = 64 := rfl
  have h2 : IntKind.u64.signed = false := rfl
  unfold IntKind.wrap
  simp only [h1, h2, Bool.false_and, Bool.false_eq_true, if_false]
  omega
theorem build_2U (x y : Nat) : buildSl 1 [.int .u32 (x : Int), .int .u32 (y : Int)] = some (.sl (enL cU [x, y]) .tight) := by simp [buildSl, seqCells, immC, isImm, AVal.acells, enL]
theorem q02_of (n : Int) (H : AHeap) (h0 : -9223372036854775808 ≤ n) (h1 : n ≤ 9223372036854775807) : Sh.gliderref02_Of (.int .i64 n) H = some (.ret (big n), H) := by
  obtain ⟨u, hu⟩ : ∃ u : Nat, u = n.natAbs := ⟨_, rfl⟩
  have hlim : Lim [u % 4294967296, u / 4294967296] := fun x hx => by
    simp at hx
    rcases hx with rfl | rfl <;> omega
  have hval : val [u % 4294967296, u / 4294967296] = u := by simp [val]; omega
  have ez : (if decide (n < 0) = true then -(u : Int) else (u : Int)) = n := by
    by_cases h : n < 0 <;> simp [h] <;> omega
  have a1 := fun H => q02_sign (decide (n < 0)) [u % 4294967296, u / 4294967296] .tight H (by simp) hlim
  simp only [hval, ez] at a1
  have e1 : ((u : Int).tmod 4294967296) = ((u % 4294967296 : Nat) : Int) := rfl
  have e2 : IntKind.u64.wrap ((u : Int).tdiv 4294967296) = ((u / 4294967296 : Nat) : Int) := by rw [show (u : Int).tdiv 4294967296 = ((u / 4294967296 : Nat) : Int) from rfl, wrap_u64] <;> omega
  have e3 : IntKind.u32.wrap ((u % 4294967296 : Nat) : Int) = ((u % 4294967296 : Nat) : Int) := by rw [wrap_u32] <;> omega
  have e4 : IntKind.u32.wrap ((u / 4294967296 : Nat) : Int) = ((u / 4294967296 : Nat) : Int) := by rw [wrap_u32] <;> omega
  have j1 : Sh.gliderref02_Of_j1 H (.int .i64 n) (.ptr H.length 0 0) (.int .u64 (u : Int)) (H ++ [.cel 0 [.bool false, .sl [] .tight]]) = some (.ret (big n), H) := by
    unfold Sh.gliderref02_Of_j1
    simp only [bin_lss, Option.bind_some, bin_rem (show (4294967296 : Int) ≠ 0 by decide), bin_quo (show (4294967296 : Int) ≠ 0 by decide), e1, e2, conv_int, e3, e4, build_2U, a1, bP_ret]
    simp
  unfold Sh.gliderref02_Of
  simp only [alloc_eq (cs := [.bool false, .sl [] .tight]) rfl, afterA_some, conv_int, Option.bind_some, joinPt, bin_lss, ag_zero, ag_1, ag_2]
  by_cases h : n < 0
  · have w : IntKind.u64.wrap (0 - IntKind.u64.wrap n) = (u : Int) := by
      rw [wrap_u64n (n := n) (by omega) h, wrap_u64n (by omega) (by omega)]; omega
    have un : unA .neg (.int .u64 (IntKind.u64.wrap n)) = some (.int .u64 (u : Int)) := by
      rw [show unA .neg (.int .u64 (IntKind.u64.wrap n)) = some (.int .u64 (IntKind.u64.wrap (0 - IntKind.u64.wrap n))) from rfl, w]
    rw [decide_eq_true h]
    simp only [condA_true, un, Option.bind_some, ag_zero, ag_1, ag_2]
    exact j1
  · have w : IntKind.u64.wrap n = (u : Int) := by rw [wrap_u64 (by omega) (by omega)]; omega
    rw [decide_eq_false h]
    simp only [condA_false, w, ag_zero, ag_1, ag_2]
    exact j1
theorem LB_pow (m : Nat) (hm : m ≤ 20000) : LB (2 ^ m) := by
  refine LB.of (k := m + 1) ?_ (by omega)
  rw [Int.natAbs_pow]
  have : (2 : Nat) ^ m < 2 ^ (32 * (m + 1)) := Nat.pow_lt_pow_right (by omega) (by omega)
  rw [Nat.pow_mul] at this
  exact this
theorem LB_one : LB 1 := LB_pow 0 (by omega)
theorem q02_pow (m : Nat) (H : AHeap) (hm : m ≤ 10000) : Sh.gliderref02_Pow (.int .i64 (m : Int)) H = some (.ret (big (2 ^ m)), H) := by
  have hs := fun H => q02_shl 1 m H hm LB_one (by rw [Int.one_mul]; exact LB_pow m (by omega))
  simp only [Int.one_mul] at hs
  unfold Sh.gliderref02_Pow
  simp [q02_of 1 _ (by omega) (by omega), hs]
/-- A whole number as one of the machine's, where it is one. -/
def intOk (z : Int) : Bool := decide (-9223372036854775808 ≤ z ∧ z ≤ 9223372036854775807)
def intR (z : Int) : Int := if intOk z then z else 0
theorem val_drop (l : List Nat) (i : Nat) (h : i < l.length) : val (l.drop i) = l[i] + 4294967296 * val (l.drop (i + 1)) := by
  rw [List.drop_eq_getElem_cons h, val]
theorem val_drop_le (l : List Nat) (i : Nat) : 4294967296 ^ i * val (l.drop i) ≤ val l := by
  induction l generalizing i with
  | nil => simp [val]
  | cons a l ih =>
    cases i with
    | zero => simp
    | succ i => have := ih i; simp only [List.drop_succ_cons, val, Nat.pow_succ]; rw [Nat.mul_comm (4294967296 ^ i) 4294967296, Nat.mul_assoc]; omega
theorem wrap_neg {u : Nat} (h : u ≤ 9223372036854775808) : IntKind.i64.wrap (IntKind.u64.wrap (0 - (u : Int))) = -(u : Int) := by
  have h1 : IntKind.i64.bits = 64 := rfl
  have h2 : IntKind.i64.signed = true := rfl
  by_cases h0 : u = 0
  · subst h0; decide
  · rw [wrap_u64n (by omega) (by omega)]
    unfold IntKind.wrap
    simp only [h1, h2, Bool.true_and, decide_eq_true_eq]
    split <;> omega
theorem q02_int (neg : Bool) (l : List Nat) (tk : Tok) (H : AHeap) (hl : l.length ≤ 549755813888) (hx : Lim l) : Sh.gliderref02_Int (.agg [.bool neg, .sl (enL cU l) tk]) H = some (.ret (.tup [.int .i64 (intR (bigI neg l)), .bool (intOk (bigI neg l))]), H) := by
  unfold Sh.gliderref02_Int
  have hw : IntKind.i64.wrap ((l.length : Int) - 1) = (l.length : Int) - 1 := by rw [wrap_i64] <;> omega
  simp only [box_agg (cs := [.bool neg, .sl (enL cU l) tk]) (sz := 2) rfl rfl, afterA_some, fieldAddr_ptr, Option.bind_some, load_app0, load_zero, Nat.zero_add, List.getElem?_cons_succ, List.getElem?_cons_zero, len_enL, bin_sub, hw]
  refine loop_fun (σ := Nat) (fun i => i ≤ l.length ∧ val (l.drop i) < 18446744073709551616) (fun i => [.ptr H.length 0 0, .int .u64 ((val (l.drop i) : Nat) : Int), .int .i64 ((i : Int) - 1)]) (fun _ => H ++ [.cel 0 [.bool neg, .sl (enL cU l) tk]]) (fun i => i)
    (fun _ => some (.ret (.tup [.int .i64 (intR (bigI neg l)), .bool (intOk (bigI neg l))]), H)) (fun i rec hi hrec => ?_) l.length ⟨Nat.le_refl _, by simp [val]⟩ (by omega) |> fun h => by simpa [val] using h
  obtain ⟨hi, hv⟩ := hi
  unfold Sh.gliderref02_Int_l1
  cases i with
  | zero =>
    simp only [List.drop_zero] at hv ⊢
    have hneg : ¬ (((0 : Nat) : Int) - 1 ≥ 0) := by omega
    have un : unA .neg (.int .u64 ((val l : Nat) : Int)) = some (.int .u64 (IntKind.u64.wrap (0 - ((val l : Nat) : Int)))) := rfl
    simp only [ag_zero, ag_1, ag_2, bin_geq, hneg, decide_false, Option.bind_some, condA_false, fieldAddr_ptr, load_app0, load_zero, Nat.zero_add, List.getElem?_cons_zero]
    cases neg with
    | true =>
      by_cases h : val l ≤ 9223372036854775808
      · have h' : ((val l : Nat) : Int) ≤ 9223372036854775808 := by omega
        have hok : intOk (bigI true l) = true := by simp [intOk, bigI]; omega
        have hwn := wrap_neg h
        rw [Int.zero_sub] at hwn
        simp [h', un, conv_int, hwn, intR, hok]
        simp [bigI]
      · have h' : ¬ ((val l : Nat) : Int) ≤ 9223372036854775808 := by omega
        have hok : intOk (bigI true l) = false := by simp [intOk, bigI]; omega
        simp [h', intR, hok]
    | false =>
      by_cases h : val l ≤ 9223372036854775807
      · have h' : ¬ ((val l : Nat) : Int) > 9223372036854775807 := by omega
        have hok : intOk (bigI false l) = true := by simp [intOk, bigI]; omega
        have hw : IntKind.i64.wrap ((val l : Nat) : Int) = ((val l : Nat) : Int) := by rw [wrap_i64] <;> omega
        simp [h', conv_int, hw, intR, hok]
        simp [bigI]
      · have h' : ((val l : Nat) : Int) > 9223372036854775807 := by omega
        have hok : intOk (bigI false l) = false := by simp [intOk, bigI]; omega
        simp [h', intR, hok]
  | succ i =>
    have e : ((i + 1 : Nat) : Int) - 1 = (i : Int) := by omega
    have hge : (i : Int) ≥ 0 := by omega
    have hil : i < l.length := by omega
    have hxi : l[i] < 4294967296 := hx _ (List.getElem_mem hil)
    have hd := val_drop l i hil
    have hle := val_drop_le l (i + 1)
    simp only [ag_zero, ag_1, ag_2, e, bin_geq, hge, decide_true, Option.bind_some, condA_true, bin_gtr]
    by_cases h : val (l.drop (i + 1)) ≤ 4294967295
    · have h' : ¬ ((val (l.drop (i + 1)) : Nat) : Int) > 4294967295 := by omega
      have w1 : IntKind.u64.wrap (((val (l.drop (i + 1)) : Nat) : Int) * 4294967296) = ((val (l.drop (i + 1)) : Nat) : Int) * 4294967296 := by rw [wrap_u64] <;> omega
      have w2 : IntKind.u64.wrap (((l[i] : Nat) : Int)) = ((l[i] : Nat) : Int) := by rw [wrap_u64] <;> omega
      have w3 : IntKind.u64.wrap (((val (l.drop (i + 1)) : Nat) : Int) * 4294967296 + ((l[i] : Nat) : Int)) = ((val (l.drop i) : Nat) : Int) := by rw [wrap_u64, hd] <;> omega
      have w4 : IntKind.i64.wrap ((i : Int) - 1) = (i : Int) - 1 := by rw [wrap_i64] <;> omega
      simp only [h', decide_false, condA_false, bin_mul, w1, fieldAddr_ptr, Option.bind_some, load_app0, load_zero, Nat.zero_add, List.getElem?_cons_succ, List.getElem?_cons_zero, idx_enL hil, load_cptr, conv_int, w2, bin_add, w3, bin_sub, w4]
      exact hrec i ⟨by omega, by omega⟩ (by omega)
    · have h' : ((val (l.drop (i + 1)) : Nat) : Int) > 4294967295 := by omega
      have hbig : 18446744073709551616 ≤ val l := by
        have : 4294967296 ^ 1 * 4294967296 ≤ 4294967296 ^ (i + 1) * val (l.drop (i + 1)) := Nat.mul_le_mul (Nat.pow_le_pow_right (by omega) (by omega)) (by omega)
        omega
      have hok : intOk (bigI neg l) = false := by cases neg <;> simp [intOk, bigI] <;> omega
      simp [h', intR, hok]
theorem q02_intZ (z : Int) (H : AHeap) (h : LB z) : Sh.gliderref02_Int (big z) H = some (.ret (.tup [.int .i64 (intR z), .bool (intOk z)]), H) := by
  rw [big_eq, q02_int _ _ _ _ h (lim_lims _), bigI_of]
/-- May limbs with a sign be? -/
def bigOkB (neg : Bool) (l : List Nat) : Bool := rightB l && !(neg && l.isEmpty)
theorem q02_right (neg : Bool) (l : List Nat) (tk : Tok) (H : AHeap) (hl : l.length ≤ 549755813888) : Sh.gliderref02_Right (.agg [.bool neg, .sl (enL cU l) tk]) H = some (.ret (.bool (bigOkB neg l)), H) := by
  unfold Sh.gliderref02_Right bigOkB
  have hq := fun H => q01_right l tk H (by omega)
  cases hr : rightB l with
  | false => simp [box_agg, hq, hr]
  | true =>
    cases neg with
    | false => simp [box_agg, hq, hr]
    | true => cases l <;> simp [box_agg, hq, hr] <;> omega
end Go.Gm
/- Chapter 7 of the document: cells. -/
namespace Go.Gm
set_option linter.unusedVariables false
set_option linter.unusedSimpArgs false
/-- A cell: its place, its state. -/
structure Cl where
  x : Int
  y : Int
  s : UInt8
deriving DecidableEq
def cCl (c : Cl) : List AVal := [.bool (decide (c.x < 0)), .sl (enL cU (lims c.x.natAbs)) .no, .bool (decide (c.y < 0)), .sl (enL cU (lims c.y.natAbs)) .no, .int .u8 (c.s.toNat : Int)]
instance : Sz cCl 5 := ⟨fun _ => rfl⟩
instance : Pl cCl := ⟨fun _ => rfl⟩
def cBig (z : Int) : List AVal := bigC z
instance : Sz cBig 2 := ⟨fun _ => rfl⟩
instance : Pl cBig := ⟨fun _ => rfl⟩
/-- So many limbs, and no more. -/
def SB (k : Nat) (z : Int) : Prop := z.natAbs < 4294967296 ^ k
theorem SB.lb {k : Nat} {z : Int} (h : SB k z) (hk : k ≤ 549755813888) : LB z := LB.of h hk
theorem SB.mono {k m : Nat} {z : Int} (h : SB k z) (hm : k ≤ m) : SB m z := Nat.lt_of_lt_of_le h (pow_le32 hm)
theorem SB.add {k : Nat} {a b : Int} (ha : SB k a) (hb : SB k b) : SB (k + 1) (a + b) := by
  unfold SB at *
  have : 4294967296 ^ (k + 1) = 4294967296 ^ k * 4294967296 := Nat.pow_succ _ _
  omega
theorem SB.neg {k : Nat} {a : Int} (ha : SB k a) : SB k (-a) := by unfold SB at *; rwa [Int.natAbs_neg]
theorem SB.sub {k : Nat} {a b : Int} (ha : SB k a) (hb : SB k b) : SB (k + 1) (a - b) := by rw [Int.sub_eq_add_neg]; exact ha.add hb.neg
theorem SB_powk {m k : Nat} (h : m < 32 * k) : SB k (2 ^ m) := by
  have e : ((2 : Int) ^ m).natAbs = 2 ^ m := by rw [Int.natAbs_pow]; rfl
  unfold SB
  rw [e]
  exact pow32_lt h
theorem SB_pow {m : Nat} (h : m ≤ 10000) : SB 313 (2 ^ m) := SB_powk (Nat.lt_of_le_of_lt h (by decide))
def Cl.ok (c : Cl) : Prop := SB 100 c.x ∧ SB 100 c.y
/-- Does one cell stand ahead of another one? -/
def ordC (a b : Cl) : Int := if cmpZ a.y b.y = 0 then cmpZ a.x b.x else cmpZ a.y b.y
theorem boxCl (c : Cl) (H : AHeap) : boxA true 5 (.agg (cCl c)) H = some (.ptr H.length 0 0, H ++ [.cel 0 (cCl c)]) := box_agg rfl rfl
theorem acells_cl (c : Cl) : (AVal.agg (cCl c)).acells = some (cCl c) := acells_agg rfl
section
variable {H G : AHeap} {p : Nat} {c : Cl} {z : Int}
theorem load_xP (hg : H[p]? = some (.cel 0 (cCl c))) : loadA true 2 (.ptr p 0 0) H = some (big c.x) := by
  simp only [loadA, get_cel hg, Option.bind_some, if_true]; rfl
theorem load_yP (hg : H[p]? = some (.cel 0 (cCl c))) : loadA true 2 (.ptr p 0 2) H = some (big c.y) := by
  simp only [loadA, get_cel hg, Option.bind_some, if_true]; rfl
theorem load_bigP (hg : H[p]? = some (.cel 0 (bigC z))) : loadA true 2 (.ptr p 0 0) H = some (big z) := by
  simp only [loadA, get_cel hg, Option.bind_some, if_true]; rfl
theorem store_bigP {cs : List AVal} (hg : H[p]? = some (.cel 0 cs)) (hl : cs.length = 2) : storeA 2 (.ptr p 0 0) (big z) H = some (H.set p (.cel 0 (bigC z))) := by
  simp only [storeA, get_cel hg, Option.bind_some, big_acells, setC_cel hg, putN_all hl]
  rw [if_pos ⟨rfl, by omega⟩]
theorem load_xC : loadA true 2 (.cptr (cCl c) 0) H = some (big c.x) := (rfl)
theorem load_yC : loadA true 2 (.cptr (cCl c) 2) H = some (big c.y) := (rfl)
theorem load_sC : loadA false 1 (.cptr (cCl c) 4) H = some (.int .u8 (c.s.toNat : Int)) := (rfl)
theorem load_cl : loadA true 5 (.cptr (cCl c) 0) H = some (.agg (cCl c)) := (rfl)
theorem build_cl (c : Cl) : buildSl 5 [.agg (cCl c)] = some (.sl (enL cCl [c]) .tight) := by
  simp [buildSl, seqCells, acells_cl]; simp [cCl, immC, isImm, enL]
theorem allocBig (H : AHeap) : allocA (some [.bool false, .sl [] .tight]) H = some (.ptr H.length 0 0, H ++ [.cel 0 [.bool false, .sl [] .tight]]) := alloc_eq rfl
theorem get_left {i : Nat} {x : Blk} (h : H[i]? = some x) : (H ++ G)[i]? = some x := by
  have := (List.getElem?_eq_some_iff.1 h).1
  rw [List.getElem?_append_left this]; exact h
end
theorem q07_order (a b : Cl) (H : AHeap) (ha : a.ok) (hb : b.ok) : Sh.gliderref07_order (.agg (cCl a)) (.agg (cCl b)) H = some (.ret (.int .i64 (ordC a b)), H) := by
  have e1 : (H ++ [Blk.cel 0 (cCl a)] ++ [Blk.cel 0 (cCl b)])[H.length]? = some (.cel 0 (cCl a)) := by simp
  have e2 : (H ++ [Blk.cel 0 (cCl a)] ++ [Blk.cel 0 (cCl b)])[(H ++ [Blk.cel 0 (cCl a)]).length]? = some (.cel 0 (cCl b)) := last_cel
  unfold Sh.gliderref07_order
  have hy := fun H => q02_cmpZ a.y b.y H (ha.2.lb (by decide)) (hb.2.lb (by decide))
  have hx := fun H => q02_cmpZ a.x b.x H (ha.1.lb (by decide)) (hb.1.lb (by decide))
  simp only [GMb, joinPt, decide_true, decide_false, if_true, if_false, boxCl, fieldAddr_ptr, Nat.zero_add, Nat.add_zero, load_yP e1, load_yP e2, hy]
  have fin : ∀ q : Int, rP H (.int .i64 q) (H ++ [Blk.cel 0 (cCl a)] ++ [Blk.cel 0 (cCl b)]) = some (.ret (.int .i64 q), H) := fun q => by simp only [List.append_assoc]; exact rP_int
  unfold ordC
  by_cases h : cmpZ a.y b.y = 0
  · simp only [GMb, joinPt, decide_true, decide_false, if_true, if_false, h, load_xP e1, load_xP e2, hx, fin]
  · simp only [GMb, joinPt, decide_true, decide_false, if_true, if_false, h, fin]
/-- Is a cell one of a root's of a level? -/
def inZ (v : Nat) (z : Int) : Bool := decide (-(2 ^ (v - 1)) ≤ z) && decide (z < 2 ^ (v - 1))
def withinB (v : Nat) (c : Cl) : Bool := inZ v c.x && inZ v c.y
theorem cmp_geq (a b : Int) : decide (cmpZ a b ≥ 0) = decide (b ≤ a) := by
  unfold cmpZ; rw [Bool.eq_iff_iff]
  split
  · simp; omega
  · split
    · simp; omega
    · simp; omega
theorem cmp_lss (a b : Int) : decide (cmpZ a b < 0) = decide (a < b) := by
  unfold cmpZ; rw [Bool.eq_iff_iff]
  split
  · simp; omega
  · split
    · simp; omega
    · simp; omega
theorem q07_within (c : Cl) (v : Nat) (H : AHeap) (hc : c.ok) (h1 : 1 ≤ v) (h2 : v ≤ 10000) : Sh.gliderref07_within (.agg (cCl c)) (.int .i64 (v : Int)) H = some (.ret (.bool (withinB v c)), H) := by
  have hw : IntKind.i64.wrap ((v : Int) - 1) = ((v - 1 : Nat) : Int) := wrap_pred (by omega) (by omega)
  have hp := SB_pow (show v - 1 ≤ 10000 by omega)
  have hpl := hp.lb (by decide)
  unfold Sh.gliderref07_within
  have hpow := fun H => q02_pow (v - 1) H (by omega)
  have hmin := fun H => q02_minusZ (2 ^ (v - 1)) H hpl
  have hx := fun H b (hb : LB b) => q02_cmpZ c.x b H (hc.1.lb (by decide)) hb
  have hy := fun H b (hb : LB b) => q02_cmpZ c.y b H (hc.2.lb (by decide)) hb
  have s1 : ∀ B : AHeap, storeA 2 (.ptr B.length 0 0) (big (2 ^ (v - 1))) (B ++ [.cel 0 [.bool false, .sl [] .tight]]) = some (B ++ [.cel 0 (bigC (2 ^ (v - 1)))]) := fun B => by rw [store_bigP (last_cel (B := B)) rfl, last_set]
  have s2 : ∀ B : AHeap, storeA 2 (.ptr B.length 0 0) (big (-(2 ^ (v - 1)))) (B ++ [.cel 0 [.bool false, .sl [] .tight]]) = some (B ++ [.cel 0 (bigC (-(2 ^ (v - 1))))]) := fun B => by rw [store_bigP (last_cel (B := B)) rfl, last_set]
  simp only [GMb, joinPt, decide_true, decide_false, if_true, if_false, boxCl, hw, hpow, allocBig, s1, load_bigP last_cel, hmin, s2]
  generalize hB : H ++ [Blk.cel 0 (cCl c)] = B
  have e1 : (B ++ [Blk.cel 0 (bigC (2 ^ (v - 1)))] ++ [Blk.cel 0 (bigC (-(2 ^ (v - 1))))])[H.length]? = some (.cel 0 (cCl c)) := by rw [← hB]; simp
  have e2 : (B ++ [Blk.cel 0 (bigC (2 ^ (v - 1)))] ++ [Blk.cel 0 (bigC (-(2 ^ (v - 1))))])[B.length]? = some (.cel 0 (bigC (2 ^ (v - 1)))) := by simp
  have e3 : (B ++ [Blk.cel 0 (bigC (2 ^ (v - 1)))] ++ [Blk.cel 0 (bigC (-(2 ^ (v - 1))))])[(B ++ [Blk.cel 0 (bigC (2 ^ (v - 1)))]).length]? = some (.cel 0 (bigC (-(2 ^ (v - 1))))) := last_cel
  have fin : ∀ q : Bool, rP H (.bool q) (B ++ [Blk.cel 0 (bigC (2 ^ (v - 1)))] ++ [Blk.cel 0 (bigC (-(2 ^ (v - 1))))]) = some (.ret (.bool q), H) := fun q => by rw [← hB]; simp only [List.append_assoc]; exact rP_bool
  unfold withinB inZ
  simp only [GMb, joinPt, decide_true, decide_false, if_true, if_false, fieldAddr_ptr, Nat.zero_add, Nat.add_zero, load_xP e1, load_yP e1, load_bigP e2, load_bigP e3, hx _ _ hpl, hx _ _ hpl.neg, hy _ _ hpl, hy _ _ hpl.neg, cmp_geq, cmp_lss]
  cases decide (-(2 ^ (v - 1)) ≤ c.x) with
  | false => simp only [GMb, joinPt, decide_true, decide_false, if_true, if_false, fin]
  | true =>
    simp only [GMb, joinPt, decide_true, decide_false, if_true, if_false, fieldAddr_ptr, Nat.zero_add, Nat.add_zero, load_xP e1, load_yP e1, load_bigP e2, load_bigP e3, hx _ _ hpl, hx _ _ hpl.neg, hy _ _ hpl, hy _ _ hpl.neg, cmp_geq, cmp_lss]
    cases decide (c.x < 2 ^ (v - 1)) with
    | false => simp only [GMb, joinPt, decide_true, decide_false, if_true, if_false, fin]
    | true =>
      simp only [GMb, joinPt, decide_true, decide_false, if_true, if_false, fieldAddr_ptr, Nat.zero_add, Nat.add_zero, load_xP e1, load_yP e1, load_bigP e2, load_bigP e3, hx _ _ hpl, hx _ _ hpl.neg, hy _ _ hpl, hy _ _ hpl.neg, cmp_geq, cmp_lss]
      cases decide (-(2 ^ (v - 1)) ≤ c.y) with
      | false => simp only [GMb, joinPt, decide_true, decide_false, if_true, if_false, fin]
      | true =>
        simp only [GMb, joinPt, decide_true, decide_false, if_true, if_false, fieldAddr_ptr, Nat.zero_add, Nat.add_zero, load_xP e1, load_yP e1, load_bigP e2, load_bigP e3, hx _ _ hpl, hx _ _ hpl.neg, hy _ _ hpl, hy _ _ hpl.neg, cmp_geq, cmp_lss, fin]
end Go.Gm
/- Chapter 7 of the document: the last state of each place. -/
namespace Go.Gm
set_option linter.unusedVariables false
set_option linter.unusedSimpArgs false
def posC (c : Cl) (out : List Cl) : Nat := (out.takeWhile fun d => decide (ordC d c < 0)).length
def sameC (c : Cl) (out : List Cl) : Bool := match out[posC c out]? with | some d => decide (ordC d c = 0) | none => false
def restC (c : Cl) (out : List Cl) : List Cl := if sameC c out then (out.drop (posC c out)).drop 1 else out.drop (posC c out)
def lastStep (out : List Cl) (c : Cl) : List Cl := out.take (posC c out) ++ [c] ++ restC c out
def lastAll (l : List Cl) : List Cl := l.foldl lastStep []
/-- Cells of unlike places, in order: the last one's state of each, without those of 0. -/
def lastL (l : List Cl) : List Cl := (lastAll l).filter fun c => decide (c.s ≠ 0)
theorem takeWhile_len {α : Type} (p : α → Bool) : ∀ (l : List α) (n : Nat), n ≤ l.length → (∀ (j : Nat) (a : α), j < n → l[j]? = some a → p a = true) → (∀ a, l[n]? = some a → p a = false) → (l.takeWhile p).length = n
  | [], n, h, _, _ => by simp at h; simp [h]
  | a :: l, 0, _, _, h => by
    have := h a rfl
    simp [List.takeWhile_cons, this]
  | a :: l, n + 1, h, h1, h2 => by
    have h3 := h1 0 a (by omega) rfl
    have := takeWhile_len p l n (by simpa using h) (fun j b hj hb => h1 (j + 1) b (by omega) (by simpa using hb)) (fun b hb => h2 b (by simpa using hb))
    simp [List.takeWhile_cons, h3, this]
theorem posC_le (c : Cl) (out : List Cl) : posC c out ≤ out.length := by
  unfold posC
  exact (List.takeWhile_sublist _).length_le
theorem lastStep_len (out : List Cl) (c : Cl) : (lastStep out c).length ≤ out.length + 1 := by
  have := posC_le c out
  unfold lastStep restC
  split <;> simp <;> omega
theorem lastStep_mem {out : List Cl} {c d : Cl} (h : d ∈ lastStep out c) : d = c ∨ d ∈ out := by
  unfold lastStep restC at h
  simp only [List.mem_append, List.mem_singleton] at h
  rcases h with (h | h) | h
  · exact .inr (List.mem_of_mem_take h)
  · exact .inl h
  · right
    split at h
    · exact List.mem_of_mem_drop (List.mem_of_mem_drop h)
    · exact List.mem_of_mem_drop h
theorem lastAll_take {l : List Cl} {i : Nat} (hi : i < l.length) : lastAll (l.take (i + 1)) = lastStep (lastAll (l.take i)) l[i] := by
  unfold lastAll
  rw [List.take_succ_eq_append_getElem hi, List.foldl_append]; rfl
theorem lastAll_mem {l : List Cl} : ∀ i, i ≤ l.length → (lastAll (l.take i)).length ≤ i ∧ ∀ d ∈ lastAll (l.take i), d ∈ l
  | 0, _ => by simp [lastAll]
  | i + 1, h => by
    obtain ⟨h1, h2⟩ := lastAll_mem i (by omega : i ≤ l.length)
    rw [lastAll_take h]
    refine ⟨Nat.le_trans (lastStep_len _ _) (by omega), fun d hd => ?_⟩
    rcases lastStep_mem hd with rfl | hd
    · exact List.getElem_mem h
    · exact h2 d hd
theorem slice_cap {α : Type} {f : α → List AVal} {l : List α} {tk : Tok} {sz h : Nat} {K : IntKind} [hf : Sz f sz] (hh : h ≤ l.length) :
    sliceSl sz (.sl (enL f l) tk) none (some (.int K (h : Int))) (some (.int K (h : Int))) = some (.sl (enL f (l.take h)) .tight) := by
  simp [sliceSl, boundA, enL, hf.len, hh, List.map_take, sliceTok]
theorem elems_sl {α : Type} {f : α → List AVal} {l : List α} {tk : Tok} {sz : Nat} {H : AHeap} [hf : Sz f sz] : elemsA sz (.sl (enL f l) tk) H = some (enL f l) := by
  simp [elemsA, all_enL]
theorem q07_last (l : List Cl) (tk0 : Tok) (H : AHeap) (hl : l.length < 549755813888) (hok : ∀ c ∈ l, c.ok) : Sh.gliderref07_Last (.sl (enL cCl l) tk0) H = some (.ret (.sl (enL cCl (lastL l)) .no), H) := by
  unfold Sh.gliderref07_Last
  have loop := loop_inv (G := fun rec1 vs H1 => Sh.gliderref07_Last_l1 H rec1 (ag vs 0) (ag vs 1) (ag vs 2) H1) l.length (fun i vs Hc => ∃ tk G, vs = [.sl (enL cCl l) tk0, .sl (enL cCl (lastAll (l.take i))) tk, .int .i64 (i : Int)] ∧ Hc = H ++ G) (by omega) (fun i vs Hc hi hI => ?_)
    (vs := [.sl (enL cCl l) tk0, .sl [] .tight, .int .i64 0]) (H := H) ⟨.tight, [], rfl, by simp⟩
  · obtain ⟨vs', Hc, ⟨tk, G, rfl, rfl⟩, rec, hloop⟩ := loop
    rw [hloop]
    unfold Sh.gliderref07_Last_l1
    rw [List.take_of_length_le (Nat.le_refl _)]
    simp only [GMb, joinPt, decide_true, decide_false, if_true, if_false, len_enL, Int.lt_irrefl]
    generalize hB : H ++ G = B
    have hlen : (lastAll l).length ≤ l.length := by have := (lastAll_mem (l := l) l.length (Nat.le_refl _)).1; rwa [List.take_of_length_le (Nat.le_refl _)] at this
    unfold lastL
    generalize lastAll l = o at hlen
    refine loop_up (G := fun rec4 vs H1 => Sh.gliderref07_Last_l4 H rec4 (ag vs 0) (ag vs 1) (ag vs 2) H1) o.length (fun i => [.sl (enL cCl o) tk, outS cCl B ((o.take i).filter fun c => decide (c.s ≠ 0)), .int .i64 (i : Int)]) (fun i => outT cCl ty_api_Cell 5 B ((o.take i).filter fun c => decide (c.s ≠ 0))) _ (by omega) (fun rec i hi => ?_) (fun rec => ?_)
    · have hi' : (i : Int) < (o.length : Int) := by omega
      have hws := wrap_succ (show i < 9223372036854775807 by omega)
      unfold Sh.gliderref07_Last_l4
      rw [List.take_succ_eq_append_getElem hi, List.filter_append]
      have hfl : ((o.take i).filter fun c => decide (c.s ≠ 0)).length ≤ i := Nat.le_trans (List.length_filter_le _ _) (by simp; omega)
      generalize ((o.take i).filter fun c => decide (c.s ≠ 0)) = fo at hfl
      have hs : decide ((o[i].s.toNat : Int) = 0) = decide (o[i].s = 0) := by
        rw [Bool.eq_iff_iff]; simp only [decide_eq_true_eq]
        constructor
        · intro h; exact UInt8.toNat_inj.1 (by simpa using h)
        · intro h; rw [h]; rfl
      simp only [GMb, joinPt, decide_true, decide_false, if_true, if_false, len_enL, hi', idx_enL hi, fieldAddr_cptr, Nat.zero_add, load_sC, hs, hws, Sh.gliderref07_Last_j5]
      by_cases h0 : o[i].s = 0
      · have : [o[i]].filter (fun c => decide (c.s ≠ 0)) = [] := by simp [h0]
        rw [this, List.append_nil]
        simp only [GMb, joinPt, decide_true, decide_false, if_true, if_false, h0, decide_true, Sh.gliderref07_Last_j5, hws]
      · have : [o[i]].filter (fun c => decide (c.s ≠ 0)) = [o[i]] := by simp [h0]
        rw [this]
        have ha := append_out (f := cCl) (ty := ty_api_Cell) (bytes := 72) (tk := .tight) (B := B) (l := fo) (m := [o[i]]) (by simp) (by simp; omega) (by simp; omega)
        simp only [GMb, joinPt, decide_true, decide_false, if_true, if_false, h0, decide_false, load_cl, build_cl, ha, Sh.gliderref07_Last_j5, hws]
    · obtain ⟨G', hG'⟩ := outT_eq (f := cCl) (ty := ty_api_Cell) (sz := 5) B (o.filter fun c => decide (c.s ≠ 0))
      unfold Sh.gliderref07_Last_l4
      rw [List.take_of_length_le (Nat.le_refl _)]
      simp only [GMb, joinPt, decide_true, decide_false, if_true, if_false, len_enL, Int.lt_irrefl, outS_eq, hG']
      rw [← hB, List.append_assoc]
      simp only [rPN_app, fall_sl, Option.map_some]
  · obtain ⟨tk, G, rfl, rfl⟩ := hI
    obtain ⟨m1, m2⟩ := lastAll_mem (l := l) i (by omega)
    have hi' : (i : Int) < (l.length : Int) := by omega
    have hws := wrap_succ (show i < 9223372036854775807 by omega)
    have hco : l[i].ok := hok _ (List.getElem_mem hi)
    have hoo : ∀ d ∈ lastAll (l.take i), d.ok := fun d hd => hok d (m2 d hd)
    rw [lastAll_take hi]
    generalize lastAll (l.take i) = o at m1 m2 hoo
    generalize hB : H ++ G = B
    have hp := posC_le l[i] o
    -- the rest, copied
    obtain ⟨tkr, Gr, hrest⟩ : ∃ tkr Gr, appendA ty_api_Cell 5 72 (.sl (enL cCl []) .tight) (.sl (enL cCl (o.drop (posC l[i] o))) (sliceTok tk (posC l[i] o) o.length o.length false)) B = some (.sl (enL cCl (o.drop (posC l[i] o))) tkr, B ++ Gr) := by
      by_cases he : o.drop (posC l[i] o) = []
      · rw [he]; exact ⟨.tight, [], by simp [append_nothing, elems_sl, enL_nil]; exact append_nothing (by simp [elemsA])⟩
      · have := append_tight (f := cCl) (l := []) (m := o.drop (posC l[i] o)) (ty := ty_api_Cell) (bytes := 72) (tk := sliceTok tk (posC l[i] o) o.length o.length false) (H := B) he (by simp; omega) (by simp; omega)
        exact ⟨_, _, this⟩
    obtain ⟨tks, hres⟩ : ∃ tks, (if sameC l[i] o then sliceSl 5 (.sl (enL cCl (o.drop (posC l[i] o))) tkr) (some (.int .i64 1)) none none else some (.sl (enL cCl (o.drop (posC l[i] o))) tkr)) = some (.sl (enL cCl (restC l[i] o)) tks) := by
      unfold restC
      cases hs : sameC l[i] o with
      | false => exact ⟨_, rfl⟩
      | true =>
        have hlt : posC l[i] o < o.length := by
          unfold sameC at hs
          cases hg : o[posC l[i] o]? with
          | none => rw [hg] at hs; cases hs
          | some d => exact (List.getElem?_eq_some_iff.1 hg).1
        have := slice_from (f := cCl) (l := o.drop (posC l[i] o)) (tk := tkr) (K := .i64) (b := 1) (by simp; omega)
        exact ⟨_, this⟩
    have ha1 := append_tight (f := cCl) (l := o.take (posC l[i] o)) (m := [l[i]]) (ty := ty_api_Cell) (bytes := 72) (tk := .tight) (H := B ++ Gr) (by simp) (by simp; omega) (by simp; omega)
    obtain ⟨tkf, Gf, ha2⟩ : ∃ tkf Gf, appendA ty_api_Cell 5 72 (.sl (enL cCl (o.take (posC l[i] o) ++ [l[i]])) (.own (B ++ Gr).length)) (.sl (enL cCl (restC l[i] o)) tks) (B ++ Gr ++ [Blk.tok ((o.take (posC l[i] o)).length + [l[i]].length) ty_api_Cell 5]) = some (.sl (enL cCl (lastStep o l[i])) tkf, B ++ Gf) := by
      by_cases he : restC l[i] o = []
      · unfold lastStep
        rw [he, List.append_nil]
        exact ⟨_, Gr ++ [Blk.tok ((o.take (posC l[i] o)).length + [l[i]].length) ty_api_Cell 5], by rw [enL_nil, append_nothing (by simp [elems_sl]), List.append_assoc]⟩
      · have hrl : (restC l[i] o).length ≤ o.length := by unfold restC; split <;> simp <;> omega
        have := append_own (f := cCl) (l := o.take (posC l[i] o) ++ [l[i]]) (m := restC l[i] o) (ty := ty_api_Cell) (bytes := 72) (tk := tks) (H := B ++ Gr ++ [Blk.tok ((o.take (posC l[i] o)).length + [l[i]].length) ty_api_Cell 5]) (t := (B ++ Gr).length) he (by simp) (by simp; omega) (by simp; omega)
        exact ⟨.own (B ++ Gr).length, Gr ++ [Blk.tok ((o.take (posC l[i] o) ++ [l[i]]).length + (restC l[i] o).length) ty_api_Cell 5], by rw [this]; unfold lastStep; rw [List.set_append_right _ _ (Nat.le_refl _), Nat.sub_self, List.set_cons_zero, List.append_assoc, List.append_assoc]⟩
    refine ⟨_, _, ⟨tkf, G ++ Gf, rfl, rfl⟩, fun rec => ?_⟩
    unfold Sh.gliderref07_Last_l1
    simp only [GMb, joinPt, decide_true, decide_false, if_true, if_false, len_enL, hi', ag_zero, ag_succ]
    refine loop_fun (G := fun rec2 vs H1 => Sh.gliderref07_Last_l2 H rec rec2 (ag vs 0) (ag vs 1) (ag vs 2) (ag vs 3) H1) (σ := Nat) (fun k => k ≤ o.length ∧ ∀ (j : Nat) (d : Cl), j < k → o[j]? = some d → decide (ordC d l[i] < 0) = true) (fun k => [.sl (enL cCl l) tk0, .sl (enL cCl o) tk, .int .i64 (i : Int), .int .i64 (k : Int)]) (fun _ => B) (fun k => o.length - k) (fun _ => _) (fun k rec2 hk hrec => ?_) 0 ⟨Nat.zero_le _, fun j d hj => by omega⟩ (by omega)
    obtain ⟨hk1, hk2⟩ := hk
    have hwk := wrap_succ (show k < 9223372036854775807 by omega)
    unfold Sh.gliderref07_Last_l2
    have stop : (∀ d, o[k]? = some d → decide (ordC d l[i] < 0) = false) → k = posC l[i] o := fun h => (takeWhile_len _ o k hk1 hk2 h).symm
    have he5 : buildSl 5 [] = some (.sl (enL cCl []) .tight) := rfl
    have tail : ∀ s : Bool, k = posC l[i] o → s = sameC l[i] o → (joinPt (fun j3 => condA (.bool s) ((sliceSl 5 (.sl (enL cCl (o.drop (posC l[i] o))) tkr) (some (.int .i64 1)) none none).bind fun x61 => j3 [.sl (enL cCl l) tk0, .sl (enL cCl o) tk, .int .i64 (i : Int), .int .i64 (k : Int), x61] (B ++ Gr)) (j3 [.sl (enL cCl l) tk0, .sl (enL cCl o) tk, .int .i64 (i : Int), .int .i64 (k : Int), .sl (enL cCl (o.drop (posC l[i] o))) tkr] (B ++ Gr))) (fun vs H1 => Sh.gliderref07_Last_j3 H rec (ag vs 0) (ag vs 1) (ag vs 2) (ag vs 3) (ag vs 4) H1)) = rec [.sl (enL cCl l) tk0, .sl (enL cCl (lastStep o l[i])) tkf, .int .i64 ((i + 1 : Nat) : Int)] (H ++ (G ++ Gf)) := by
      intro s hkp hs
      have fin : Sh.gliderref07_Last_j3 H rec (.sl (enL cCl l) tk0) (.sl (enL cCl o) tk) (.int .i64 (i : Int)) (.int .i64 (k : Int)) (.sl (enL cCl (restC l[i] o)) tks) (B ++ Gr) = rec [.sl (enL cCl l) tk0, .sl (enL cCl (lastStep o l[i])) tkf, .int .i64 ((i + 1 : Nat) : Int)] (H ++ (G ++ Gf)) := by
        unfold Sh.gliderref07_Last_j3
        rw [hkp]
        simp only [GMb, joinPt, decide_true, decide_false, if_true, if_false, slice_cap hp, idx_enL hi, load_cl, build_cl, ha1, ha2, hws]
        rw [← hB, List.append_assoc]
      subst hs
      cases hsm : sameC l[i] o with
      | false =>
        rw [hsm] at hres
        simp only [Bool.false_eq_true, if_false, Option.some.injEq] at hres
        simp only [GMb, joinPt, decide_true, decide_false, if_true, if_false, hres]; exact fin
      | true =>
        rw [hsm] at hres
        simp only [if_true] at hres
        simp only [GMb, joinPt, decide_true, decide_false, if_true, if_false, hres]; exact fin
    by_cases h : k < o.length
    · have hkl : (k : Int) < (o.length : Int) := by omega
      have hord := fun H => q07_order o[k] l[i] H (hoo _ (List.getElem_mem h)) hco
      simp only [GMb, joinPt, decide_true, decide_false, if_true, if_false, len_enL, hkl, idx_enL h, idx_enL hi, load_cl, hord, hwk]
      by_cases hlt : ordC o[k] l[i] < 0
      · have := hrec (k + 1) ⟨h, fun j d hj hd => by
          by_cases e : j = k
          · subst e; rw [List.getElem?_eq_getElem h] at hd; injection hd with hd; rw [← hd]; exact decide_eq_true hlt
          · exact hk2 j d (by omega) hd⟩ (by omega)
        simp only [hlt, GMb, joinPt, decide_true, decide_false, if_true, if_false]
        exact this
      · have hkp := stop (fun d hd => by rw [List.getElem?_eq_getElem h] at hd; injection hd with hd; rw [← hd]; exact decide_eq_false hlt)
        have hsm : decide (ordC o[k] l[i] = 0) = sameC l[i] o := by
          unfold sameC; rw [← hkp, List.getElem?_eq_getElem h]
        simp only [hlt, GMb, joinPt, decide_true, decide_false, if_true, if_false, he5]
        have hsf := slice_from (f := cCl) (l := o) (tk := tk) (K := .i64) (b := posC l[i] o) hp
        rw [← hkp] at hsf hrest
        simp only [GMb, joinPt, decide_true, decide_false, if_true, if_false, hsf, hrest]
        have ht := tail _ hkp hsm
        rw [← hkp] at ht
        simp only [GMb, joinPt, decide_true, decide_false, if_true, if_false] at ht
        exact ht
    · have hk : k = o.length := by omega
      have hkl : ¬ (k : Int) < (o.length : Int) := by omega
      have hkp := stop (fun d hd => by rw [List.getElem?_eq_none (by omega)] at hd; cases hd)
      have hsm : false = sameC l[i] o := by
        unfold sameC; rw [← hkp, List.getElem?_eq_none (by omega)]
      have hsf := slice_from (f := cCl) (l := o) (tk := tk) (K := .i64) (b := posC l[i] o) hp
      rw [← hkp] at hsf hrest
      simp only [GMb, joinPt, decide_true, decide_false, if_true, if_false, len_enL, hkl, he5, hsf, hrest]
      have ht := tail _ hkp hsm
      rw [← hkp] at ht
      simp only [GMb, joinPt, decide_true, decide_false, if_true, if_false] at ht
      exact ht
end Go.Gm
/- Chapter 7 of the document: cells laid as nodes. The maths of it. -/
namespace Go.Gm
set_option linter.unusedVariables false
set_option linter.unusedSimpArgs false
def qa (v : Nat) (x : Int) (k : Nat) : Int := if k % 2 = 1 then x + 2 ^ (v - 1) else x
def qb (v : Nat) (y : Int) (k : Nat) : Int := if 1 < k then y + 2 ^ (v - 1) else y
def inQ (v : Nat) (a b : Int) (c : Cl) : Bool := decide (a ≤ c.x) && decide (c.x < a + 2 ^ (v - 1)) && decide (b ≤ c.y) && decide (c.y < b + 2 ^ (v - 1))
/-- The cells of the k-th quarter of a node of a level. -/
def quartL (v : Nat) (x y : Int) (k : Nat) (l : List Cl) : List Cl := l.filter (inQ v (qa v x k) (qb v y k))
def headS : List Cl → Int
  | [] => 0
  | c :: _ => (c.s.toNat : Int)
def plK (rec : List Nd → Int → Int → List Cl → List Nd × Nat) (v : Nat) (x y : Int) (l : List Cl) : Nat → List Nd → List Nd × Nd
  | 0, out => (out, ⟨v, 0, 0, 0, 0⟩)
  | k + 1, out =>
    if v = 1 then ((plK rec v x y l k out).1, (plK rec v x y l k out).2.setKid k (headS (quartL v x y k l)))
    else ((rec (plK rec v x y l k out).1 (qa v x k) (qb v y k) (quartL v x y k l)).1, (plK rec v x y l k out).2.setKid k ((rec (plK rec v x y l k out).1 (qa v x k) (qb v y k) (quartL v x y k l)).2 : Int))
def placeF : Nat → List Nd → Int → Int → List Cl → List Nd × Nat
  | 0, out, _, _, _ => (out, 0)
  | v + 1, out, x, y, l => if l = [] then (out, 0) else ((plK (placeF v) (v + 1) x y l 4 out).1 ++ [(plK (placeF v) (v + 1) x y l 4 out).2], (plK (placeF v) (v + 1) x y l 4 out).1.length + 1)
def cntQ (v : Nat) (x y : Int) (l : List Cl) : Nat → Nat
  | 0 => 0
  | k + 1 => cntQ v x y l k + (quartL v x y k l).length
theorem pow_half (v : Nat) : (0 : Int) < 2 ^ (v - 1) := Int.pow_pos (by omega)
theorem cntQ_le (v : Nat) (x y : Int) : ∀ l : List Cl, cntQ v x y l 4 ≤ l.length
  | [] => by simp [cntQ, quartL]
  | c :: l => by
    have ih := cntQ_le v x y l
    have hif : ∀ (p : Bool) (m : List Cl), (if p = true then c :: m else m).length = (if p = true then 1 else 0) + m.length := fun p m => by cases p <;> simp <;> omega
    simp only [cntQ, quartL, List.filter_cons, qa, qb, hif] at ih ⊢
    simp only [show (0 : Nat) % 2 = 0 from rfl, show (1 : Nat) % 2 = 1 from rfl, show (2 : Nat) % 2 = 0 from rfl, show (3 : Nat) % 2 = 1 from rfl, show ¬ (1 : Nat) < 0 from by omega, show ¬ (1 : Nat) < 1 from by omega, show (1 : Nat) < 2 from by omega, show (1 : Nat) < 3 from by omega, if_true, if_false, show ¬ (0 : Nat) = 1 from by omega] at ih ⊢
    have key : (if inQ v x y c then 1 else 0) + (if inQ v (x + 2 ^ (v - 1)) y c then 1 else 0) + (if inQ v x (y + 2 ^ (v - 1)) c then 1 else 0) + (if inQ v (x + 2 ^ (v - 1)) (y + 2 ^ (v - 1)) c then 1 else 0) ≤ 1 := by
      unfold inQ
      have hp := pow_half v
      generalize (2 : Int) ^ (v - 1) = h at hp
      simp only [Bool.and_eq_true, decide_eq_true_eq]
      split <;> split <;> split <;> split <;> first | omega | (exfalso; omega)
    simp only [List.length_cons]
    omega
theorem cntQ_mono (v : Nat) (x y : Int) (l : List Cl) {k : Nat} (h : k ≤ 4) : cntQ v x y l k ≤ l.length := by
  have h4 := cntQ_le v x y l
  match k, h with
  | 0, _ => simp [cntQ]
  | 1, _ => simp only [cntQ] at h4 ⊢; omega
  | 2, _ => simp only [cntQ] at h4 ⊢; omega
  | 3, _ => simp only [cntQ] at h4 ⊢; omega
  | 4, _ => exact h4
mutual
theorem place_len : ∀ (v : Nat) (out : List Nd) (x y : Int) (l : List Cl), (placeF v out x y l).1.length ≤ out.length + l.length * v
  | 0, out, x, y, l => by simp [placeF]
  | v + 1, out, x, y, l => by
    unfold placeF
    split
    · simp
    · rename_i hl
      have h := plK_len v out x y l 4 (Nat.le_refl _)
      have hc := cntQ_le (v + 1) x y l
      have hpos : 0 < l.length := List.length_pos_iff.2 hl
      have : cntQ (v + 1) x y l 4 * v ≤ l.length * v := Nat.mul_le_mul_right _ hc
      have e : l.length * (v + 1) = l.length * v + l.length := Nat.mul_succ _ _
      simp only [List.length_append, List.length_singleton]
      omega
theorem plK_len : ∀ (v : Nat) (out : List Nd) (x y : Int) (l : List Cl) (k : Nat), k ≤ 4 → (plK (placeF v) (v + 1) x y l k out).1.length ≤ out.length + cntQ (v + 1) x y l k * v
  | v, out, x, y, l, 0, _ => by simp [plK, cntQ]
  | v, out, x, y, l, k + 1, h => by
    have ih := plK_len v out x y l k (by omega)
    unfold plK cntQ
    rw [Nat.add_mul]
    split
    · dsimp only; omega
    · have := place_len v (plK (placeF v) (v + 1) x y l k out).1 (qa (v + 1) x k) (qb (v + 1) y k) (quartL (v + 1) x y k l)
      dsimp only; omega
end
end Go.Gm
/- Chapter 7 of the document: cells laid as nodes. -/
namespace Go.Gm
set_option linter.unusedVariables false
set_option linter.unusedSimpArgs false
/-- A row of nodes that grows, in a heap. -/
def PS (b : Nat) (out : List Nd) (v : AVal) (H : AHeap) : Prop := (out = [] ∧ v = .sl [] .tight) ∨ ∃ t, b ≤ t ∧ v = .sl (enL cNd out) (.own t) ∧ H[t]? = some (.tok out.length ty_api_Node 5)
/-- A heap that has grown: cells stay. -/
structure Kp (b : Nat) (H H' : AHeap) : Prop where
  len : H.length ≤ H'.length
  cel : ∀ (i : Nat) (cs : List AVal), H[i]? = some (.cel 0 cs) → H'[i]? = some (.cel 0 cs)
  old : ∀ i, i < b → H'[i]? = H[i]?
theorem Kp.refl (b : Nat) (H : AHeap) : Kp b H H := ⟨Nat.le_refl _, fun _ _ h => h, fun _ _ => rfl⟩
theorem Kp.trans {b : Nat} {H H1 H2 : AHeap} (h : Kp b H H1) (h' : Kp b H1 H2) : Kp b H H2 :=
  ⟨Nat.le_trans h.len h'.len, fun i cs hc => h'.cel i cs (h.cel i cs hc), fun i hi => (h'.old i hi).trans (h.old i hi)⟩
theorem Kp.app {b : Nat} {H : AHeap} (hb : b ≤ H.length) (G : AHeap) : Kp b H (H ++ G) :=
  ⟨by simp, fun i cs h => get_left h, fun i hi => by rw [List.getElem?_append_left (by omega)]⟩
theorem PS.sl {b : Nat} {out : List Nd} {v : AVal} {H : AHeap} (h : PS b out v H) : ∃ tk, v = .sl (enL cNd out) tk := by
  rcases h with ⟨rfl, rfl⟩ | ⟨t, _, rfl, _⟩
  · exact ⟨_, rfl⟩
  · exact ⟨_, rfl⟩
theorem PS.left {b : Nat} {out : List Nd} {v : AVal} {H : AHeap} (h : PS b out v H) (G : AHeap) : PS b out v (H ++ G) := by
  rcases h with h1 | ⟨t, h1, h2, h3⟩
  · exact .inl h1
  · exact .inr ⟨t, h1, h2, get_left h3⟩
theorem PS.put {b p : Nat} {out : List Nd} {v : AVal} {H : AHeap} {c c' : List AVal} (h : PS b out v H) (hp : H[p]? = some (.cel 0 c)) : PS b out v (H.set p (.cel 0 c')) := by
  rcases h with h1 | ⟨t, h1, h2, h3⟩
  · exact .inl h1
  · refine .inr ⟨t, h1, h2, ?_⟩
    have : p ≠ t := fun e => by rw [← e, hp] at h3; cases h3
    rw [List.getElem?_set_ne this]; exact h3
theorem PS.snoc {b : Nat} {out : List Nd} {v : AVal} {H : AHeap} (h : PS b out v H) (hb : b ≤ H.length) (x : Nd) (hl : out.length < 3518437208883) :
    ∃ v' H', appendA ty_api_Node 5 40 v (.sl (enL cNd [x]) .tight) H = some (v', H') ∧ PS b (out ++ [x]) v' H' ∧ Kp b H H' := by
  rcases h with ⟨rfl, rfl⟩ | ⟨t, h1, rfl, h3⟩
  · have := append_tight (f := cNd) (l := []) (m := [x]) (ty := ty_api_Node) (bytes := 40) (tk := .tight) (H := H) (by simp) (by simp) (by simp)
    exact ⟨_, _, this, .inr ⟨H.length, hb, rfl, by simp⟩, Kp.app hb _⟩
  · have := append_own (f := cNd) (l := out) (m := [x]) (ty := ty_api_Node) (bytes := 40) (tk := .tight) (H := H) (t := t) (by simp) h3 (by simp; omega) (by simp; omega)
    have htl := (List.getElem?_eq_some_iff.1 h3).1
    refine ⟨_, _, this, .inr ⟨t, h1, rfl, by simp [htl]⟩, ⟨by simp, fun i cs hc => ?_, fun i hi => ?_⟩⟩
    · have : t ≠ i := fun e => by rw [← e, h3] at hc; cases hc
      rw [List.getElem?_set_ne this]; exact hc
    · rw [List.getElem?_set_ne (by omega)]
/-- A coordinate of a corner of a node of a level. -/
def TOPk (k : Nat) : Nat := 2 ^ k
def TOP : Nat := TOPk 1400
theorem topk_lt {k m : Nat} (h : k < 32 * m) : TOPk k < 4294967296 ^ m := pow32_lt h
theorem topk_ge {v k : Nat} (h : v ≤ k) : 2 ^ v ≤ TOPk k := pow2_le h
theorem top_lt : TOP < 4294967296 ^ 44 := topk_lt (by decide)
theorem top_ge {v : Nat} (h : v ≤ 1400) : 2 ^ v ≤ TOP := topk_ge h
def Cn (v : Nat) (z : Int) : Prop := z.natAbs + 2 ^ v ≤ TOP
theorem abs_pow2 (v : Nat) : ((2 : Int) ^ v).natAbs = 2 ^ v := by rw [Int.natAbs_pow]; rfl
theorem Cn.sb {v : Nat} {z : Int} (h : Cn v z) : SB 44 z := by
  exact Nat.lt_of_le_of_lt (Nat.le_trans (Nat.le_add_right _ _) h) top_lt
theorem Cn.add {v : Nat} {z : Int} (h : Cn (v + 1) z) : Cn v (z + 2 ^ v) ∧ Cn v z := by
  unfold Cn at *
  have e : (2 : Nat) ^ (v + 1) = 2 ^ v * 2 := Nat.pow_succ _ _
  have h1 := Int.natAbs_add_le z (2 ^ v)
  rw [abs_pow2] at h1
  omega
theorem sb_half {v : Nat} (h : v ≤ 1400) : SB 44 (2 ^ v) := by
  unfold SB
  rw [abs_pow2]
  exact Nat.lt_of_le_of_lt (top_ge h) top_lt
theorem Cn.sb1 {v : Nat} {z : Int} (h : Cn (v + 1) z) : SB 44 (z + 2 ^ v) ∧ SB 44 (z + 2 ^ v + 2 ^ v) := by
  refine ⟨h.add.1.sb, ?_⟩
  unfold Cn at h
  have e : (2 : Nat) ^ (v + 1) = 2 ^ v * 2 := Nat.pow_succ _ _
  have h1 := Int.natAbs_add_le z (2 ^ v)
  have h2 := Int.natAbs_add_le (z + 2 ^ v) (2 ^ v)
  rw [abs_pow2] at h1 h2
  exact Nat.lt_of_le_of_lt (show (z + 2 ^ v + 2 ^ v).natAbs ≤ TOP by omega) top_lt
end Go.Gm
/- Chapter 7 of the document: cells laid as nodes: the program's. -/
namespace Go.Gm
set_option linter.unusedVariables false
set_option linter.unusedSimpArgs false
section
variable {Hc : AHeap} {a c : List AVal} {z : Int}
theorem st0 (ha : a.length = 2) : storeA 2 (.ptr Hc.length 0 0) (big z) (Hc ++ [Blk.cel 0 a] ++ [Blk.cel 0 c]) = some (Hc ++ [Blk.cel 0 (bigC z)] ++ [Blk.cel 0 c]) := by
  rw [store_bigP (cs := a) (by simp) ha]; simp
theorem st1 (hc : c.length = 2) : storeA 2 (.ptr (Hc.length + 1) 0 0) (big z) (Hc ++ [Blk.cel 0 a] ++ [Blk.cel 0 c]) = some (Hc ++ [Blk.cel 0 a] ++ [Blk.cel 0 (bigC z)]) := by
  rw [store_bigP (cs := c) (by simp) hc]; simp
end
/-- The cells of a quarter, gathered. -/
theorem place_gather (H : AHeap) (self : AVal → AVal → AVal → AVal → AVal → AHeap → Out) (j2 : LK) (v : Nat) (hv : v ≤ 1329) (w : AVal) (l : List Cl) (tk : Tok) (p6 p8 p15 p20 p45 p47 k : Nat) (B : AHeap) (qa qb : Int) (out : Out)
    (hl : l.length < 549755813888) (hok : ∀ c ∈ l, c.ok) (h15 : B[p15]? = some (.cel 0 (bigC (2 ^ (v - 1))))) (h45 : B[p45]? = some (.cel 0 (bigC qa))) (h47 : B[p47]? = some (.cel 0 (bigC qb)))
    (ca : SB 44 qa ∧ SB 44 (qa + 2 ^ (v - 1))) (cb : SB 44 qb ∧ SB 44 (qb + 2 ^ (v - 1)))
    (fin : ∀ rec5 : LK, Sh.gliderref07_place_l5 H self j2 rec5 w (.int .i64 (v : Int)) (.sl (enL cCl l) tk) (.ptr p6 0 0) (.ptr p8 0 0) (.ptr p15 0 0) (.ptr p20 0 0) (.int .i64 (k : Int)) (.ptr p45 0 0) (.ptr p47 0 0) (outS cCl B (l.filter (inQ v qa qb))) (.int .i64 (l.length : Int)) (outT cCl ty_api_Cell 5 B (l.filter (inQ v qa qb))) = out) :
    Sh.gliderref07_place_j4 H self j2 w (.int .i64 (v : Int)) (.sl (enL cCl l) tk) (.ptr p6 0 0) (.ptr p8 0 0) (.ptr p15 0 0) (.ptr p20 0 0) (.int .i64 (k : Int)) (.ptr p45 0 0) (.ptr p47 0 0) B = out := by
  unfold Sh.gliderref07_place_j4
  refine loop_up (G := fun rec5 vs H1 => Sh.gliderref07_place_l5 H self j2 rec5 (ag vs 0) (ag vs 1) (ag vs 2) (ag vs 3) (ag vs 4) (ag vs 5) (ag vs 6) (ag vs 7) (ag vs 8) (ag vs 9) (ag vs 10) (ag vs 11) H1) l.length
    (fun i => [w, .int .i64 (v : Int), .sl (enL cCl l) tk, .ptr p6 0 0, .ptr p8 0 0, .ptr p15 0 0, .ptr p20 0 0, .int .i64 (k : Int), .ptr p45 0 0, .ptr p47 0 0, outS cCl B ((l.take i).filter (inQ v qa qb)), .int .i64 (i : Int)]) (fun i => outT cCl ty_api_Cell 5 B ((l.take i).filter (inQ v qa qb))) _ (by omega) (fun rec i hi => ?_) (fun rec => ?_)
  · have hi' : (i : Int) < (l.length : Int) := by omega
    have hws := wrap_succ (show i < 9223372036854775807 by omega)
    have hco := hok _ (List.getElem_mem hi)
    rw [List.take_succ_eq_append_getElem hi, List.filter_append]
    have hfl : ((l.take i).filter (inQ v qa qb)).length ≤ i := Nat.le_trans (List.length_filter_le _ _) (by simp; omega)
    generalize ((l.take i).filter (inQ v qa qb)) = fo at hfl
    obtain ⟨G, hG⟩ := outT_eq (f := cCl) (ty := ty_api_Cell) (sz := 5) B fo
    have t15 := load_bigP (get_left (G := G) h15)
    have t45 := load_bigP (get_left (G := G) h45)
    have t47 := load_bigP (get_left (G := G) h47)
    have ha := append_out (f := cCl) (ty := ty_api_Cell) (bytes := 72) (tk := .tight) (B := B) (l := fo) (m := [l[i]]) (by simp) (by simp; omega) (by simp; omega)
    rw [hG] at ha ⊢
    have hp : SB 44 (2 ^ (v - 1)) := sb_half (by omega)
    have cx := fun H z (hz : SB 44 z) => q02_cmpZ l[i].x z H (hco.1.lb (by decide)) (hz.lb (by decide))
    have cy := fun H z (hz : SB 44 z) => q02_cmpZ l[i].y z H (hco.2.lb (by decide)) (hz.lb (by decide))
    have ad := fun H z (hz : SB 44 z) => q02_addZ z (2 ^ (v - 1)) H (hz.lb (by decide)) (hp.lb (by decide))
    generalize hc : l[i] = cl at hco cx cy ha
    unfold Sh.gliderref07_place_l5
    have hidx := idx_enL (f := cCl) (tk := tk) (K := .i64) hi
    rw [hc] at hidx
    have e0 : ∀ (s : Bool), inQ v qa qb cl = s → (if s then [cl] else []) = [cl].filter (inQ v qa qb) := fun s h => by subst h; simp [List.filter_cons]
    simp only [GMb, joinPt, decide_true, decide_false, if_true, if_false, ag_succ, len_enL, hi', hidx, fieldAddr_cptr, Nat.zero_add, load_xC, load_yC, t15, t45, t47, cx _ _ ca.1, cmp_geq, Sh.gliderref07_place_j6, hws]
    cases h1 : decide (qa ≤ cl.x) with
    | false =>
      rw [← e0 false (by simp [inQ, h1])]
      simp only [GMb, joinPt, decide_true, decide_false, if_true, if_false, ag_succ, gR_false, and_true, eq_self, Sh.gliderref07_place_j6, hws, List.append_nil, hG]
    | true =>
      simp only [GMb, joinPt, decide_true, decide_false, if_true, if_false, ag_succ, gR_true, and_true, eq_self, t15, t45, t47, ad _ _ ca.1, hidx, fieldAddr_cptr, Nat.zero_add, load_xC, load_yC, cx _ _ ca.2, cmp_lss]
      cases h2 : decide (cl.x < qa + 2 ^ (v - 1)) with
      | false =>
        rw [← e0 false (by simp [inQ, h2])]
        simp only [GMb, joinPt, decide_true, decide_false, if_true, if_false, ag_succ, gR_false, and_true, eq_self, Sh.gliderref07_place_j6, hws, List.append_nil, hG]
      | true =>
        simp only [GMb, joinPt, decide_true, decide_false, if_true, if_false, ag_succ, gR_true, and_true, eq_self, t15, t45, t47, hidx, fieldAddr_cptr, Nat.zero_add, load_xC, load_yC, cy _ _ cb.1, cmp_geq]
        cases h3 : decide (qb ≤ cl.y) with
        | false =>
          rw [← e0 false (by simp [inQ, h3])]
          simp only [GMb, joinPt, decide_true, decide_false, if_true, if_false, ag_succ, gR_false, and_true, eq_self, Sh.gliderref07_place_j6, hws, List.append_nil, hG]
        | true =>
          simp only [GMb, joinPt, decide_true, decide_false, if_true, if_false, ag_succ, gR_true, and_true, eq_self, t15, t45, t47, ad _ _ cb.1, hidx, fieldAddr_cptr, Nat.zero_add, load_xC, load_yC, cy _ _ cb.2, cmp_lss]
          cases h4 : decide (cl.y < qb + 2 ^ (v - 1)) with
          | false =>
            rw [← e0 false (by simp [inQ, h4])]
            simp only [GMb, joinPt, decide_true, decide_false, if_true, if_false, ag_succ, Sh.gliderref07_place_j6, hws, List.append_nil, hG]
          | true =>
            rw [← e0 true (by unfold inQ; rw [h1, h2, h3, h4]; rfl)]
            simp only [GMb, joinPt, decide_true, decide_false, if_true, if_false, ag_succ, hidx, load_cl, build_cl, ha, Sh.gliderref07_place_j6, hws]
  · rw [List.take_of_length_le (Nat.le_refl _)]
    exact fin rec
end Go.Gm
/- Chapter 7 of the document: cells laid as nodes: the program's. -/
namespace Go.Gm
set_option linter.unusedVariables false
set_option linter.unusedSimpArgs false
theorem quartL_mem {v : Nat} {x y : Int} {k : Nat} {l : List Cl} {c : Cl} (h : c ∈ quartL v x y k l) : c ∈ l := (List.mem_filter.1 h).1
theorem quartL_len (v : Nat) (x y : Int) (k : Nat) (l : List Cl) : (quartL v x y k l).length ≤ l.length := List.length_filter_le _ _
def PlOk (b n : Nat) (self : AVal → AVal → AVal → AVal → AVal → AHeap → Out) : Prop :=
  ∀ (out : List Nd) (w : AVal) (x y : Int) (l : List Cl) (tk : Tok) (H : AHeap), PS b out w H → b ≤ H.length → (∀ c ∈ l, c.ok) → Cn n x → Cn n y → l.length < 549755813888 → out.length + l.length * n < 3518437208883 →
    ∃ H' w', self w (.int .i64 (n : Int)) (big x) (big y) (.sl (enL cCl l) tk) H = some (.ret (.tup [w', .int .i64 ((placeF n out x y l).2 : Int)]), H') ∧ PS b (placeF n out x y l).1 w' H' ∧ Kp b H H'
theorem qa_c {n : Nat} {x : Int} (h : Cn (n + 1) x) (k : Nat) : Cn n (qa (n + 1) x k) ∧ SB 44 (qa (n + 1) x k) ∧ SB 44 (qa (n + 1) x k + 2 ^ (n + 1 - 1)) := by
  unfold qa
  rw [Nat.add_sub_cancel]
  split
  · exact ⟨h.add.1, h.sb1.1, h.sb1.2⟩
  · exact ⟨h.add.2, h.sb, h.sb1.1⟩
theorem qb_c {n : Nat} {y : Int} (h : Cn (n + 1) y) (k : Nat) : Cn n (qb (n + 1) y k) ∧ SB 44 (qb (n + 1) y k) ∧ SB 44 (qb (n + 1) y k + 2 ^ (n + 1 - 1)) := by
  unfold qb
  rw [Nat.add_sub_cancel]
  split
  · exact ⟨h.add.1, h.sb1.1, h.sb1.2⟩
  · exact ⟨h.add.2, h.sb, h.sb1.1⟩
theorem place_turn {b n : Nat} {self : AVal → AVal → AVal → AVal → AVal → AHeap → Out} (hself : n = 0 ∨ PlOk b n self) (hn : n + 1 ≤ 1329) (H Hc : AHeap) (out : List Nd) (w : AVal) (x y : Int) (l : List Cl) (tk : Tok) (p6 p8 p15 p20 k : Nat) (hk : k < 4) (hb : b ≤ H.length) (h20 : H.length ≤ p20)
    (hok : ∀ c ∈ l, c.ok) (cnx : Cn (n + 1) x) (cny : Cn (n + 1) y) (hl : l.length < 549755813888) (hlen : out.length + l.length * (n + 1) < 3518437208883)
    (hPS : PS b (plK (placeF n) (n + 1) x y l k out).1 w Hc) (f6 : Hc[p6]? = some (.cel 0 (bigC x))) (f8 : Hc[p8]? = some (.cel 0 (bigC y))) (f15 : Hc[p15]? = some (.cel 0 (bigC (2 ^ (n + 1 - 1))))) (f20 : Hc[p20]? = some (.cel 0 (cNd (plK (placeF n) (n + 1) x y l k out).2))) (hKp : Kp b H Hc) (d6 : p6 ≠ p20) (d8 : p8 ≠ p20) (d15 : p15 ≠ p20) :
    ∃ w' Hd, (∀ rec : LK, Sh.gliderref07_place_l1 H self rec w (.int .i64 ((n + 1 : Nat) : Int)) (.sl (enL cCl l) tk) (.ptr p6 0 0) (.ptr p8 0 0) (.ptr p15 0 0) (.ptr p20 0 0) (.int .i64 (k : Int)) Hc = rec [w', .int .i64 ((n + 1 : Nat) : Int), .sl (enL cCl l) tk, .ptr p6 0 0, .ptr p8 0 0, .ptr p15 0 0, .ptr p20 0 0, .int .i64 ((k + 1 : Nat) : Int)] Hd) ∧
      PS b (plK (placeF n) (n + 1) x y l (k + 1) out).1 w' Hd ∧ Hd[p6]? = some (.cel 0 (bigC x)) ∧ Hd[p8]? = some (.cel 0 (bigC y)) ∧ Hd[p15]? = some (.cel 0 (bigC (2 ^ (n + 1 - 1)))) ∧ Hd[p20]? = some (.cel 0 (cNd (plK (placeF n) (n + 1) x y l (k + 1) out).2)) ∧ Kp b H Hd := by
  have hk' : (k : Int) < 4 := by omega
  have hws := wrap_succ (show k < 9223372036854775807 by omega)
  have hp : SB 44 (2 ^ (n + 1 - 1)) := sb_half (by omega)
  have hrem : (k : Int).tmod 2 = ((k % 2 : Nat) : Int) := rfl
  have hra : decide (((k % 2 : Nat) : Int) = 1) = decide (k % 2 = 1) := by rw [Bool.eq_iff_iff]; simp; omega
  have hrb : decide ((k : Int) > 1) = decide (1 < k) := by rw [Bool.eq_iff_iff]; simp only [decide_eq_true_eq]; omega
  have adx := fun H => q02_addZ x (2 ^ (n + 1 - 1)) H (cnx.sb.lb (by decide)) (hp.lb (by decide))
  have ady := fun H => q02_addZ y (2 ^ (n + 1 - 1)) H (cny.sb.lb (by decide)) (hp.lb (by decide))
  obtain ⟨ca1, ca2⟩ := qa_c cnx k
  obtain ⟨cb1, cb2⟩ := qb_c cny k
  -- the heap with the two corners
  have start : ∀ (j2 : LK) (O : Out), Sh.gliderref07_place_j4 H self j2 w (.int .i64 ((n + 1 : Nat) : Int)) (.sl (enL cCl l) tk) (.ptr p6 0 0) (.ptr p8 0 0) (.ptr p15 0 0) (.ptr p20 0 0) (.int .i64 (k : Int)) (.ptr Hc.length 0 0) (.ptr (Hc.length + 1) 0 0) (Hc ++ [Blk.cel 0 (bigC (qa (n + 1) x k))] ++ [Blk.cel 0 (bigC (qb (n + 1) y k))]) = O →
      (bC (loadA true 2 (.ptr p6 0 0) Hc) (fun _ => True) fun x44 =>
       afterA (allocA (some [(.bool false), (.sl [] .tight)]) Hc) fun x45 H46 =>
       afterA (allocA (some [(.bool false), (.sl [] .tight)]) H46) fun x47 H48 =>
       bindN (retH (storeA 2 x45 x44 H48)) fun _ H50 =>
       bC (loadA true 2 (.ptr p8 0 0) H50) (fun x51 => loadA true 2 (.ptr p8 0 0) Hc = some x51 ∧ True) fun x51 =>
       bK H (retH (storeA 2 x47 x51 H50)) fun _ H53 =>
       joinPt (fun j3 =>
       (binA .none .rem (.int .i64 (k : Int)) (.int .i64 2)).bind fun x197 =>
       (binA .none .eql x197 (.int .i64 1)).bind fun x198 =>
       condA x198 (
       (loadA true 2 (.ptr p6 0 0) H53).bind fun x199 =>
       (loadA true 2 (.ptr p15 0 0) H53).bind fun x200 =>
       bK H (Sh.gliderref02_Add x199 x200 H53) fun x201 H202 =>
       bK H (retH (storeA 2 x45 x201 H202)) fun _ H204 =>
       j3 [w, (.int .i64 ((n + 1 : Nat) : Int)), (.sl (enL cCl l) tk), (.ptr p6 0 0), (.ptr p8 0 0), (.ptr p15 0 0), (.ptr p20 0 0), (.int .i64 (k : Int)), x45, x47] H204) (
       j3 [w, (.int .i64 ((n + 1 : Nat) : Int)), (.sl (enL cCl l) tk), (.ptr p6 0 0), (.ptr p8 0 0), (.ptr p15 0 0), (.ptr p20 0 0), (.int .i64 (k : Int)), x45, x47] H53)) (fun vs H1 => Sh.gliderref07_place_j3 H self j2 (ag vs 0) (ag vs 1) (ag vs 2) (ag vs 3) (ag vs 4) (ag vs 5) (ag vs 6) (ag vs 7) (ag vs 8) (ag vs 9) H1)) = O := by
    intro j2 O hO
    have l1 : (Hc ++ [Blk.cel 0 [AVal.bool false, .sl [] .tight]]).length = Hc.length + 1 := by simp
    have g6 := fun (G G' : AHeap) => load_bigP (get_left (G := G') (get_left (G := G) f6))
    have g8 := fun (G G' : AHeap) => load_bigP (get_left (G := G') (get_left (G := G) f8))
    have g15 := fun (G G' : AHeap) => load_bigP (get_left (G := G') (get_left (G := G) f15))
    have s0 := fun (z : Int) (c : List AVal) => st0 (Hc := Hc) (a := [.bool false, .sl [] .tight]) (c := c) (z := z) rfl
    have s0' := fun (z z' : Int) (c : List AVal) => st0 (Hc := Hc) (a := bigC z') (c := c) (z := z) rfl
    have s1 := fun (z : Int) (a : List AVal) => st1 (Hc := Hc) (a := a) (c := [.bool false, .sl [] .tight]) (z := z) rfl
    have s1' := fun (z z' : Int) (a : List AVal) => st1 (Hc := Hc) (a := a) (c := bigC z') (z := z) rfl
    simp only [GMb, joinPt, decide_true, decide_false, if_true, if_false, ag_succ, load_bigP f6, allocBig, l1, s0, g8, load_bigP f8, and_true, eq_self, s1, bin_rem (show (2 : Int) ≠ 0 by decide), hrem, hra]
    unfold qa qb at hO
    by_cases hka : k % 2 = 1
    · rw [if_pos hka] at hO
      by_cases hkb : 1 < k
      · rw [if_pos hkb] at hO
        simp only [GMb, joinPt, decide_true, decide_false, if_true, if_false, ag_succ, hka, g6, g15, adx, s0', Sh.gliderref07_place_j3, hrb, hkb, g8, ady, s1']
        exact hO
      · rw [if_neg hkb] at hO
        simp only [GMb, joinPt, decide_true, decide_false, if_true, if_false, ag_succ, hka, g6, g15, adx, s0', Sh.gliderref07_place_j3, hrb, hkb]
        exact hO
    · rw [if_neg hka] at hO
      by_cases hkb : 1 < k
      · rw [if_pos hkb] at hO
        simp only [GMb, joinPt, decide_true, decide_false, if_true, if_false, ag_succ, hka, Sh.gliderref07_place_j3, hrb, hkb, g8, g15, ady, s1']
        exact hO
      · rw [if_neg hkb] at hO
        simp only [GMb, joinPt, decide_true, decide_false, if_true, if_false, ag_succ, hka, Sh.gliderref07_place_j3, hrb, hkb]
        exact hO
  generalize hB : Hc ++ [Blk.cel 0 (bigC (qa (n + 1) x k))] ++ [Blk.cel 0 (bigC (qb (n + 1) y k))] = B at start
  have b6 : B[p6]? = some (.cel 0 (bigC x)) := by rw [← hB]; exact get_left (get_left f6)
  have b8 : B[p8]? = some (.cel 0 (bigC y)) := by rw [← hB]; exact get_left (get_left f8)
  have b15 : B[p15]? = some (.cel 0 (bigC (2 ^ (n + 1 - 1)))) := by rw [← hB]; exact get_left (get_left f15)
  have b20 : B[p20]? = some (.cel 0 (cNd (plK (placeF n) (n + 1) x y l k out).2)) := by rw [← hB]; exact get_left (get_left f20)
  have b45 : B[Hc.length]? = some (.cel 0 (bigC (qa (n + 1) x k))) := by rw [← hB]; simp
  have b47 : B[Hc.length + 1]? = some (.cel 0 (bigC (qb (n + 1) y k))) := by rw [← hB]; simp
  have bPS : PS b (plK (placeF n) (n + 1) x y l k out).1 w B := by rw [← hB]; exact (hPS.left _).left _
  have bKp : Kp b H B := by rw [← hB, List.append_assoc]; exact hKp.trans (Kp.app (Nat.le_trans hb hKp.len) _)
  have hcnt := cntQ_mono (n + 1) x y l (show k + 1 ≤ 4 by omega)
  have hpl := plK_len n out x y l k (by omega)
  have hmul : cntQ (n + 1) x y l (k + 1) * n ≤ l.length * n := Nat.mul_le_mul_right _ hcnt
  rw [show cntQ (n + 1) x y l (k + 1) * n = cntQ (n + 1) x y l k * n + (quartL (n + 1) x y k l).length * n from by rw [← Nat.add_mul]; rfl] at hmul
  have hmul2 : l.length * (n + 1) = l.length * n + l.length := Nat.mul_succ _ _
  obtain ⟨G, hG⟩ := outT_eq (f := cCl) (ty := ty_api_Cell) (sz := 5) B (quartL (n + 1) x y k l)
  have hin : ∀ i, l.filter (inQ (n + 1) (qa (n + 1) x i) (qb (n + 1) y i)) = quartL (n + 1) x y i l := fun i => rfl
  -- behind the gathering
  suffices hs : ∃ w' Hd, (∀ (rec rec5 : LK), Sh.gliderref07_place_l5 H self (fun vs H1 => Sh.gliderref07_place_j2 H rec (ag vs 0) (ag vs 1) (ag vs 2) (ag vs 3) (ag vs 4) (ag vs 5) (ag vs 6) (ag vs 7) H1) rec5 w (.int .i64 ((n + 1 : Nat) : Int)) (.sl (enL cCl l) tk) (.ptr p6 0 0) (.ptr p8 0 0) (.ptr p15 0 0) (.ptr p20 0 0) (.int .i64 (k : Int)) (.ptr Hc.length 0 0) (.ptr (Hc.length + 1) 0 0) (outS cCl B (quartL (n + 1) x y k l)) (.int .i64 (l.length : Int)) (B ++ G) = rec [w', .int .i64 ((n + 1 : Nat) : Int), .sl (enL cCl l) tk, .ptr p6 0 0, .ptr p8 0 0, .ptr p15 0 0, .ptr p20 0 0, .int .i64 ((k + 1 : Nat) : Int)] Hd) ∧
      PS b (plK (placeF n) (n + 1) x y l (k + 1) out).1 w' Hd ∧ Hd[p6]? = some (.cel 0 (bigC x)) ∧ Hd[p8]? = some (.cel 0 (bigC y)) ∧ Hd[p15]? = some (.cel 0 (bigC (2 ^ (n + 1 - 1)))) ∧ Hd[p20]? = some (.cel 0 (cNd (plK (placeF n) (n + 1) x y l (k + 1) out).2)) ∧ Kp b H Hd by
    obtain ⟨w', Hd, q1, q2⟩ := hs
    refine ⟨w', Hd, fun rec => ?_, q2⟩
    unfold Sh.gliderref07_place_l1
    simp only [bin_lss, obind, hk', decide_true, condA_true]
    rw [show ∀ (f : LK → Out) (j : LK), joinPt f j = f j from fun _ _ => rfl]
    refine start _ _ (place_gather H self _ (n + 1) hn w l tk p6 p8 p15 p20 Hc.length (Hc.length + 1) k B _ _ _ hl hok b15 b45 b47 ca2 cb2 fun rec5 => ?_)
    rw [hin, hG]
    exact q1 rec rec5
  generalize hq : quartL (n + 1) x y k l = q at hG hmul
  have hqm : ∀ c ∈ q, c.ok := fun c hc => hok c (by rw [← hq] at hc; exact quartL_mem hc)
  have hql : q.length ≤ l.length := by rw [← hq]; exact quartL_len _ _ _ _ _
  have t6 := get_left (G := G) b6
  have t8 := get_left (G := G) b8
  have t15 := get_left (G := G) b15
  have t20 := get_left (G := G) b20
  have t45 := get_left (G := G) b45
  have t47 := get_left (G := G) b47
  have tPS := bPS.left G
  have tKp : Kp b H (B ++ G) := bKp.trans (Kp.app (Nat.le_trans hb bKp.len) G)
  have hlast : ¬ ((l.length : Int) < (l.length : Int)) := by omega
  generalize hT : B ++ G = T at t6 t8 t15 t20 t45 t47 tPS tKp
  have h20l := (List.getElem?_eq_some_iff.1 t20).1
  rcases Nat.eq_zero_or_pos n with hn0 | hn0
  · subst hn0
    -- level 1: a state
    have hone : ¬ (((0 + 1 : Nat) : Int) > 1) := by decide
    have hone' : (((0 + 1 : Nat) : Int) = 1) := rfl
    have hone2 : ¬ ((1 : Int) > 1) := by decide
    have hpk : plK (placeF 0) (0 + 1) x y l (k + 1) out = ((plK (placeF 0) (0 + 1) x y l k out).1, (plK (placeF 0) (0 + 1) x y l k out).2.setKid k (headS q)) := by
      conv => lhs; unfold plK
      rw [if_pos rfl, hq]
    rw [hpk]
    cases q with
    | nil =>
      refine ⟨w, T, fun rec rec5 => ?_, tPS, t6, t8, t15, ?_, tKp⟩
      · unfold Sh.gliderref07_place_l5
        simp only [GMb, joinPt, decide_true, decide_false, if_true, if_false, ag_succ, len_enL, hlast, Sh.gliderref07_place_j7, hone, hone', hone2, show outS cCl B [] = .sl [] .tight from rfl, show lenSl (.sl [] .tight) = some (.int .i64 0) from rfl, show ¬ ((0 : Int) > 0) from by decide, Sh.gliderref07_place_j2, hws]
      · rw [t20]
        have : (plK (placeF 0) (0 + 1) x y l k out).2.setKid k (headS []) = (plK (placeF 0) (0 + 1) x y l k out).2 := by
          have hz : (plK (placeF 0) (0 + 1) x y l k out).2.kid k = 0 := by
            have : ∀ j, j ≤ k → (plK (placeF 0) (0 + 1) x y l j out).2.kid k = 0 := by
              intro j
              induction j with
              | zero =>
                intro _
                unfold plK Nd.kid
                dsimp only
                split <;> rfl
              | succ j ihj =>
                intro hj
                conv => lhs; unfold plK
                rw [if_pos rfl]
                dsimp only
                rw [setKid_other _ _ (by omega) hk (by omega)]
                exact ihj (by omega)
            exact this k (Nat.le_refl _)
          generalize (plK (placeF 0) (0 + 1) x y l k out).2 = nd at hz
          obtain ⟨lv, k0, k1, k2, k3⟩ := nd
          match k, hk, hz with
          | 0, _, hz => simp only [Nd.kid] at hz; subst hz; rfl
          | 1, _, hz => simp only [Nd.kid] at hz; subst hz; rfl
          | 2, _, hz => simp only [Nd.kid] at hz; subst hz; rfl
          | 3, _, hz => simp only [Nd.kid] at hz; subst hz; rfl
        rw [this]
    | cons c q =>
      have hwc : IntKind.i64.wrap (c.s.toNat : Int) = (c.s.toNat : Int) := wrap_nat (by have := c.s.toNat_lt; omega)
      have hidx : idxSl 5 (.sl (enL cCl (c :: q)) (.own B.length)) (.int .i64 0) = some (.cptr (cCl c) 0) := idx_enL (f := cCl) (l := c :: q) (tk := .own B.length) (K := .i64) (i := 0) (by simp)
      have hpos : (((c :: q).length : Int) > 0) := by simp only [List.length_cons]; omega
      refine ⟨w, T.set p20 (.cel 0 (cNd ((plK (placeF 0) (0 + 1) x y l k out).2.setKid k (c.s.toNat : Int)))), fun rec rec5 => ?_, tPS.put t20, by rw [List.getElem?_set_ne d6.symm]; exact t6, by rw [List.getElem?_set_ne d8.symm]; exact t8, by rw [List.getElem?_set_ne d15.symm]; exact t15, by rw [List.getElem?_set_self h20l]; rfl, ⟨by simp; exact tKp.len, fun i cs hi => ?_, fun i hi => ?_⟩⟩
      · unfold Sh.gliderref07_place_l5
        simp only [GMb, joinPt, decide_true, decide_false, if_true, if_false, ag_succ, len_enL, hlast, Sh.gliderref07_place_j7, hone, hone', hone2, show outS cCl B (c :: q) = .sl (enL cCl (c :: q)) (.own B.length) from rfl, hpos, hidx, fieldAddr_cptr, fieldAddr_ptr, Nat.zero_add, load_sC, conv_int, hwc, idx_kidP hk, store_kidP t20 hk, Sh.gliderref07_place_j2, hws]
      · have := (List.getElem?_eq_some_iff.1 hi).1
        rw [List.getElem?_set_ne (by omega)]; exact tKp.cel i cs hi
      · rw [List.getElem?_set_ne (by omega)]; exact tKp.old i hi
  · -- a level above: a node
    have hsf : PlOk b n self := by rcases hself with h | h; omega; exact h
    have hone : (((n + 1 : Nat) : Int) > 1) := by omega
    have hone' : ¬ (((n + 1 : Nat) : Int) = 1) := by omega
    have hwn : IntKind.i64.wrap (((n + 1 : Nat) : Int) - 1) = (n : Int) := by rw [wrap_i64] <;> omega
    have hpk : plK (placeF n) (n + 1) x y l (k + 1) out = ((placeF n (plK (placeF n) (n + 1) x y l k out).1 (qa (n + 1) x k) (qb (n + 1) y k) q).1, (plK (placeF n) (n + 1) x y l k out).2.setKid k ((placeF n (plK (placeF n) (n + 1) x y l k out).1 (qa (n + 1) x k) (qb (n + 1) y k) q).2 : Int)) := by
      conv => lhs; unfold plK
      rw [if_neg (by omega), hq]
    rw [hpk]
    obtain ⟨H1, w1, r1, r2, r3⟩ := hsf _ w (qa (n + 1) x k) (qb (n + 1) y k) q (outK B q) T tPS (Nat.le_trans hb tKp.len) hqm ca1 cb1 (by omega) (by omega)
    have u20 := r3.cel _ _ t20
    have u20l := (List.getElem?_eq_some_iff.1 u20).1
    refine ⟨w1, H1.set p20 (.cel 0 (cNd ((plK (placeF n) (n + 1) x y l k out).2.setKid k ((placeF n (plK (placeF n) (n + 1) x y l k out).1 (qa (n + 1) x k) (qb (n + 1) y k) q).2 : Int)))), fun rec rec5 => ?_, r2.put u20, by rw [List.getElem?_set_ne d6.symm]; exact r3.cel _ _ t6, by rw [List.getElem?_set_ne d8.symm]; exact r3.cel _ _ t8, by rw [List.getElem?_set_ne d15.symm]; exact r3.cel _ _ t15, by rw [List.getElem?_set_self u20l], ⟨by simp; exact Nat.le_trans tKp.len r3.len, fun i cs hi => ?_, fun i hi => ?_⟩⟩
    · unfold Sh.gliderref07_place_l5
      simp only [GMb, joinPt, decide_true, decide_false, if_true, if_false, ag_succ, len_enL, hlast, Sh.gliderref07_place_j7, hone, hone', outS_eq, hwn, load_bigP t45, load_bigP t47, r1, extract_0, extract_1, fieldAddr_ptr, Nat.zero_add, idx_kidP hk, store_kidP u20 hk, Sh.gliderref07_place_j2, hws]
    · have := (List.getElem?_eq_some_iff.1 hi).1
      rw [List.getElem?_set_ne (by omega)]; exact r3.cel _ _ (tKp.cel i cs hi)
    · rw [List.getElem?_set_ne (by omega), r3.old i hi]; exact tKp.old i hi
end Go.Gm
/- Chapter 7 of the document: a node of cells. -/
namespace Go.Gm
set_option linter.unusedVariables false
set_option linter.unusedSimpArgs false
theorem place_step {b n d : Nat} (hself : n = 0 ∨ PlOk b n (Sh.gliderref07_place d)) (hn : n + 1 ≤ 1329) : PlOk b (n + 1) (Sh.gliderref07_place (d + 1)) := by
  intro out w x y l tk H hPS hb hok cnx cny hl hlen
  have hws : IntKind.i64.wrap (((n + 1 : Nat) : Int) - 1) = ((n : Nat) : Int) := by rw [wrap_i64] <;> omega
  have hp : SB 44 (2 ^ (n + 1 - 1)) := sb_half (by omega)
  have hpow := fun H => q02_pow n H (by omega)
  show ∃ H' w', Sh.gliderref07_place_F (Sh.gliderref07_place d) _ _ _ _ _ _ = _ ∧ _
  unfold Sh.gliderref07_place_F placeF
  have s1 : ∀ B : AHeap, storeA 2 (.ptr B.length 0 0) (big (2 ^ n)) (B ++ [.cel 0 [.bool false, .sl [] .tight]]) = some (B ++ [.cel 0 (bigC (2 ^ n))]) := fun B => by rw [store_bigP (last_cel (B := B)) rfl, last_set]
  simp only [GMb, joinPt, decide_true, decide_false, if_true, if_false, boxBig, len_enL]
  by_cases h0 : l = []
  · subst h0
    simp only [GMb, joinPt, decide_true, decide_false, if_true, if_false, List.length_nil, show ((0 : Nat) : Int) = 0 from rfl]
    exact ⟨_, _, rfl, (hPS.left _).left _, (Kp.app hb _).trans (Kp.app (by simp; omega) _)⟩
  · have hl0 : ¬ ((l.length : Int) = 0) := by have := List.length_pos_iff.2 h0; omega
    have hlp := List.length_pos_iff.2 h0
    simp only [if_neg h0, hl0, GMb, joinPt, decide_true, decide_false, if_true, if_false, hws, hpow, allocBig, s1, build_lv, alloc_nd, store_ndP (last_cel (cs := cNd nd0)) rfl, last_set]
    generalize h1 : H ++ [Blk.cel 0 (bigC x)] = H1
    generalize h2 : H1 ++ [Blk.cel 0 (bigC y)] = H2
    generalize h3 : H2 ++ [Blk.cel 0 (bigC (2 ^ n))] = H3
    have e1 : H1.length = H.length + 1 := by rw [← h1]; simp
    have e2 : H2.length = H.length + 2 := by rw [← h2]; simp; omega
    have e3 : H3.length = H.length + 3 := by rw [← h3]; simp; omega
    have f6 : (H3 ++ [Blk.cel 0 (cNd ⟨((n + 1 : Nat) : Int), 0, 0, 0, 0⟩)])[H.length]? = some (.cel 0 (bigC x)) := by rw [← h3, ← h2, ← h1]; simp
    have f8 : (H3 ++ [Blk.cel 0 (cNd ⟨((n + 1 : Nat) : Int), 0, 0, 0, 0⟩)])[H1.length]? = some (.cel 0 (bigC y)) := by rw [← h3, ← h2]; simp
    have f15 : (H3 ++ [Blk.cel 0 (cNd ⟨((n + 1 : Nat) : Int), 0, 0, 0, 0⟩)])[H2.length]? = some (.cel 0 (bigC (2 ^ n))) := by rw [← h3]; simp
    have hPS' : PS b out w (H3 ++ [Blk.cel 0 (cNd ⟨((n + 1 : Nat) : Int), 0, 0, 0, 0⟩)]) := by rw [← h3, ← h2, ← h1]; exact (((hPS.left _).left _).left _).left _
    have hKp' : Kp b H (H3 ++ [Blk.cel 0 (cNd ⟨((n + 1 : Nat) : Int), 0, 0, 0, 0⟩)]) := by
      rw [← h3, ← h2, ← h1]; simp only [List.append_assoc]; exact Kp.app hb _
    have loop := loop_inv (G := fun rec1 vs Hc => Sh.gliderref07_place_l1 H (Sh.gliderref07_place d) rec1 (ag vs 0) (ag vs 1) (ag vs 2) (ag vs 3) (ag vs 4) (ag vs 5) (ag vs 6) (ag vs 7) Hc) 4
      (fun k vs Hc => ∃ w', vs = [w', .int .i64 ((n + 1 : Nat) : Int), .sl (enL cCl l) tk, .ptr H.length 0 0, .ptr H1.length 0 0, .ptr H2.length 0 0, .ptr H3.length 0 0, .int .i64 (k : Int)] ∧ PS b (plK (placeF n) (n + 1) x y l k out).1 w' Hc ∧ Hc[H.length]? = some (.cel 0 (bigC x)) ∧ Hc[H1.length]? = some (.cel 0 (bigC y)) ∧ Hc[H2.length]? = some (.cel 0 (bigC (2 ^ n))) ∧ Hc[H3.length]? = some (.cel 0 (cNd (plK (placeF n) (n + 1) x y l k out).2)) ∧ Kp b H Hc)
      (by decide) (fun k vs Hc hk hI => ?_) (vs := [w, .int .i64 ((n + 1 : Nat) : Int), .sl (enL cCl l) tk, .ptr H.length 0 0, .ptr H1.length 0 0, .ptr H2.length 0 0, .ptr H3.length 0 0, .int .i64 0]) (H := H3 ++ [Blk.cel 0 (cNd ⟨((n + 1 : Nat) : Int), 0, 0, 0, 0⟩)])
      ⟨w, rfl, hPS', f6, f8, f15, by simp [plK], hKp'⟩
    · obtain ⟨vs', Hc, ⟨w', rfl, g1, g2, g3, g4, g5, g6⟩, rec, hloop⟩ := loop
      have hpl := plK_len n out x y l 4 (Nat.le_refl _)
      have hcnt := cntQ_le (n + 1) x y l
      have hmul : cntQ (n + 1) x y l 4 * n ≤ l.length * n := Nat.mul_le_mul_right _ hcnt
      have hmul2 : l.length * (n + 1) = l.length * n + l.length := Nat.mul_succ _ _
      obtain ⟨w2, H4, a1, a2, a3⟩ := g1.snoc (Nat.le_trans hb g6.len) (plK (placeF n) (n + 1) x y l 4 out).2 (by omega)
      obtain ⟨tk4, rfl⟩ := a2.sl
      have hf : ¬ (((4 : Nat) : Int) < 4) := by decide
      refine ⟨H4, _, ?_, a2, g6.trans a3⟩
      rw [hloop]
      unfold Sh.gliderref07_place_l1
      simp only [GMb, joinPt, decide_true, decide_false, if_true, if_false, ag_succ, hf, load_ndP g5, build_nd, a1, len_enL, List.length_append, List.length_singleton]
    · obtain ⟨w', rfl, g1, g2, g3, g4, g5, g6⟩ := hI
      obtain ⟨w2, Hd, q1, q2, q3, q4, q5, q6, q7⟩ := place_turn hself hn H Hc out w' x y l tk H.length H1.length H2.length H3.length k hk hb (by omega) hok cnx cny hl hlen g1 g2 g3 g4 g5 g6 (by omega) (by omega) (by omega)
      exact ⟨_, _, ⟨w2, rfl, q2, q3, q4, q5, q6, q7⟩, q1⟩
theorem q07_place (b : Nat) : ∀ n d, n + 1 ≤ 1329 → n + 1 ≤ d → PlOk b (n + 1) (Sh.gliderref07_place d)
  | 0, d, h1, h2 => by
    obtain ⟨d, rfl⟩ : ∃ e, d = e + 1 := ⟨d - 1, by omega⟩
    exact place_step (.inl rfl) h1
  | n + 1, d, h1, h2 => by
    obtain ⟨d, rfl⟩ : ∃ e, d = e + 1 := ⟨d - 1, by omega⟩
    exact place_step (.inr (q07_place b n d (by omega) (by omega))) h1
end Go.Gm
/- Chapter 7 of the document: the quad of cells. -/
namespace Go.Gm
set_option linter.unusedVariables false
set_option linter.unusedSimpArgs false
/-- A cell as it may come: any limbs, any sign. -/
structure RC where
  n1 : Bool
  l1 : List Nat
  n2 : Bool
  l2 : List Nat
  s : UInt8
def cRC (r : RC) : List AVal := [.bool r.n1, .sl (enL cU r.l1) .no, .bool r.n2, .sl (enL cU r.l2) .no, .int .u8 (r.s.toNat : Int)]
instance : Sz cRC 5 := ⟨fun _ => rfl⟩
def RC.fits (r : RC) : Prop := Lim r.l1 ∧ Lim r.l2 ∧ r.l1.length ≤ 549755813888 ∧ r.l2.length ≤ 549755813888
def RC.right (r : RC) : Bool := bigOkB r.n1 r.l1 && bigOkB r.n2 r.l2
def RC.cl (r : RC) : Cl := ⟨bigI r.n1 r.l1, bigI r.n2 r.l2, r.s⟩
theorem bigC_ok {n : Bool} {l : List Nat} (h : bigOkB n l = true) (hx : Lim l) : [AVal.bool n, .sl (enL cU l) .no] = bigC (bigI n l) := by
  simp only [bigOkB, Bool.and_eq_true, Bool.not_eq_true'] at h
  obtain ⟨h1, h2⟩ := h
  have hn : Nrm l := (rightB_iff hx).1 h1
  unfold bigC
  rw [bigI_abs, ← lims_val hn]
  congr 2
  unfold bigI
  cases n with
  | false => simp
  | true =>
    have hl : l ≠ [] := fun e => by subst e; simp at h2
    have : val l ≠ 0 := fun e => hl (hn.zero e)
    simp; omega
theorem cRC_cl {r : RC} (h : r.right = true) (hf : r.fits) : cRC r = cCl r.cl := by
  simp only [RC.right, Bool.and_eq_true] at h
  have e1 := bigC_ok h.1 hf.1
  have e2 := bigC_ok h.2 hf.2.1
  show [AVal.bool r.n1, .sl (enL cU r.l1) .no] ++ ([AVal.bool r.n2, .sl (enL cU r.l2) .no] ++ [.int .u8 (r.s.toNat : Int)]) = _
  rw [e1, e2]; rfl
theorem enL_RC {l : List RC} (h : ∀ r ∈ l, r.right = true) (hf : ∀ r ∈ l, r.fits) : enL cRC l = enL cCl (l.map RC.cl) := by
  unfold enL
  rw [List.map_map]
  exact List.map_congr_left fun r hr => cRC_cl (h r hr) (hf r hr)
def greatB (most : Int) (l : List RC) : Bool := decide ((l.length : Int) > most) || !((List.range l.length).all fun i => match l[i]? with | some r => decide (r.l1.length ≤ 50) && decide (r.l2.length ≤ 50) | none => true)
theorem q07_great (l : List RC) (tk : Tok) (most : Int) (H : AHeap) (hl : l.length < 1152921504606846976) : Sh.gliderref07_Great (.sl (enL cRC l) tk) (.int .i64 most) H = some (.ret (.bool (greatB most l)), H) := by
  unfold Sh.gliderref07_Great greatB
  simp only [GMb, joinPt, decide_true, decide_false, if_true, if_false, len_enL]
  by_cases hm : (l.length : Int) > most
  · simp only [hm, GMb, joinPt, decide_true, decide_false, if_true, if_false]
  · simp only [hm, GMb, joinPt, decide_true, decide_false, if_true, if_false]
    have key := loop_all (G := fun rec1 vs H1 => Sh.gliderref07_Great_l1 H rec1 (ag vs 0) (ag vs 1) H1) l.length (fun i => match l[i]? with | some r => decide (r.l1.length ≤ 50) && decide (r.l2.length ≤ 50) | none => true) (fun i => [.sl (enL cRC l) tk, .int .i64 (i : Int)]) H (some (.ret (.bool false), H)) (some (.ret (.bool true), H)) hl (fun rec i hi => ?_) (fun rec => ?_)
    · refine key.trans ?_
      cases (List.range l.length).all fun i => match l[i]? with | some r => decide (r.l1.length ≤ 50) && decide (r.l2.length ≤ 50) | none => true <;> rfl
    · have hi' : (i : Int) < (l.length : Int) := by omega
      have hws := wrap_succ (show i < 9223372036854775807 by omega)
      have g1 : ∀ H, loadA false 1 (.cptr (cRC l[i]) 1) H = some (.sl (enL cU l[i].l1) .no) := fun H => rfl
      have g2 : ∀ H, loadA false 1 (.cptr (cRC l[i]) 3) H = some (.sl (enL cU l[i].l2) .no) := fun H => rfl
      have d1 : decide ((l[i].l1.length : Int) > 50) = !decide (l[i].l1.length ≤ 50) := by rw [Bool.eq_iff_iff]; simp; omega
      have d2 : decide ((l[i].l2.length : Int) > 50) = !decide (l[i].l2.length ≤ 50) := by rw [Bool.eq_iff_iff]; simp; omega
      unfold Sh.gliderref07_Great_l1
      simp only [GMb, joinPt, decide_true, decide_false, if_true, if_false, len_enL, hi', idx_enL hi, fieldAddr_cptr, Nat.zero_add, g1, List.getElem?_eq_getElem hi, d1]
      cases decide (l[i].l1.length ≤ 50) with
      | false => simp only [GMb, joinPt, decide_true, decide_false, if_true, if_false]
      | true =>
        simp only [GMb, joinPt, decide_true, decide_false, if_true, if_false, idx_enL hi, fieldAddr_cptr, Nat.zero_add, show 2 + 1 = 3 from rfl, g2, len_enL, d2, hws]
        cases decide (l[i].l2.length ≤ 50) <;> simp only [GMb, joinPt, decide_true, decide_false, if_true, if_false]
    · unfold Sh.gliderref07_Great_l1
      simp only [GMb, joinPt, decide_true, decide_false, if_true, if_false, len_enL, Int.lt_irrefl]
def lvUp : Nat → Nat → Cl → Nat
  | 0, v, _ => v
  | f + 1, v, c => if withinB v c then v else lvUp f (v + 1) c
/-- The level of a root of cells; 1330: there is none. -/
def levelOf (l : List Cl) : Nat := l.foldl (fun v c => lvUp (1330 - v) v c) 1
theorem lvUp_ge : ∀ f v c, v ≤ lvUp f v c ∧ lvUp f v c ≤ v + f
  | 0, v, c => ⟨Nat.le_refl _, Nat.le_refl _⟩
  | f + 1, v, c => by
    unfold lvUp
    split
    · omega
    · have := lvUp_ge f (v + 1) c; omega
theorem levelFold (l : List Cl) : ∀ v, 1 ≤ v → v ≤ 1330 → v ≤ l.foldl (fun v c => lvUp (1330 - v) v c) v ∧ l.foldl (fun v c => lvUp (1330 - v) v c) v ≤ 1330 := by
  induction l with
  | nil => intro v h1 h2; simp; omega
  | cons c l ih =>
    intro v h1 h2
    have h := lvUp_ge (1330 - v) v c
    have := ih (lvUp (1330 - v) v c) (by omega) (by omega)
    simp only [List.foldl_cons]
    omega
theorem levelOf_le (l : List Cl) : 1 ≤ levelOf l ∧ levelOf l ≤ 1330 := levelFold l 1 (by omega) (by omega)
def of07 (l : List Cl) : List Nd × Int :=
  if levelOf (lastL l) > 1329 then ([], 4)
  else if ofOk (placeF (levelOf (lastL l)) [] (-(2 ^ (levelOf (lastL l) - 1))) (-(2 ^ (levelOf (lastL l) - 1))) (lastL l)).1 ((placeF (levelOf (lastL l)) [] (-(2 ^ (levelOf (lastL l) - 1))) (-(2 ^ (levelOf (lastL l) - 1))) (lastL l)).2 : Int)
  then (canonL (placeF (levelOf (lastL l)) [] (-(2 ^ (levelOf (lastL l) - 1))) (-(2 ^ (levelOf (lastL l) - 1))) (lastL l)).1 (placeF (levelOf (lastL l)) [] (-(2 ^ (levelOf (lastL l) - 1))) (-(2 ^ (levelOf (lastL l) - 1))) (lastL l)).2, 0)
  else ([], 1)
theorem lastL_mem {l : List Cl} {c : Cl} (h : c ∈ lastL l) : c ∈ l := by
  have h1 := (List.mem_filter.1 h).1
  have := (lastAll_mem (l := l) l.length (Nat.le_refl _)).2
  rw [List.take_of_length_le (Nat.le_refl _)] at this
  exact this c h1
theorem lastL_len (l : List Cl) : (lastL l).length ≤ l.length := by
  have h1 : (lastL l).length ≤ (lastAll l).length := List.length_filter_le _ _
  have := (lastAll_mem (l := l) l.length (Nat.le_refl _)).1
  rw [List.take_of_length_le (Nat.le_refl _)] at this
  omega
theorem cn_corner {v : Nat} (h1 : 1 ≤ v) (h : v ≤ 1329) : Cn v (-(2 ^ (v - 1))) := by
  unfold Cn
  rw [Int.natAbs_neg, abs_pow2]
  have e : (2 : Nat) ^ (v + 1) = 2 ^ v * 2 := Nat.pow_succ _ _
  have e1 : (2 : Nat) ^ (v - 1) ≤ 2 ^ v := Nat.pow_le_pow_right (by omega) (by omega)
  have := top_ge (v := v + 1) (by omega)
  omega
/-- A quad and an error, handed back. -/
theorem quad_tail {H Hq : AHeap} {tk : Tok} {Q : List Nd} {e : Int} (hc : Hq[H.length]? = some (.cel 0 [.sl [] .tight])) (hold : ∀ i, i < H.length → Hq[i]? = H[i]?) :
    (bP H (retH (storeA 1 (.ptr H.length 0 0) (.agg [.sl (enL cNd Q) tk]) Hq)) fun _ H37 => (resM [loadA true 1 (.ptr H.length 0 0) H37, some (.int .i64 e)]).bind fun x38 => rPN H x38 H37) = some (.ret (.tup [quad Q, .int .i64 e]), H) := by
  have hcl := (List.getElem?_eq_some_iff.1 hc).1
  have hst : storeA 1 (.ptr H.length 0 0) (.agg [.sl (enL cNd Q) tk]) Hq = some (Hq.set H.length (.cel 0 [.sl (enL cNd Q) tk])) := by
    simp only [storeA, get_cel hc, Option.bind_some, setC_cel hc]; rfl
  have hld : loadA true 1 (.ptr H.length 0 0) (Hq.set H.length (.cel 0 [.sl (enL cNd Q) tk])) = some (.agg [.sl (enL cNd Q) tk]) := by
    have : (Hq.set H.length (.cel 0 [.sl (enL cNd Q) tk]))[H.length]? = some (.cel 0 [.sl (enL cNd Q) tk]) := by rw [List.getElem?_set_self hcl]
    simp only [loadA, get_cel this, Option.bind_some]; rfl
  have htake : (Hq.set H.length (.cel 0 [.sl (enL cNd Q) tk])).take H.length = H := take_of_old fun i hi => by
    rw [List.getElem?_set_ne (by omega), hold i hi]
  simp only [GMb, joinPt, decide_true, decide_false, if_true, if_false, hst, hld, resM_eq, seqO_cons, seqO_nil, Option.map_some, rPN_eq htake, fall_tup, fparts_cons, fparts_nil, fpart_agg, fcells_cons, fcells_nil, fcell_sl, fpart_int]
  rfl
end Go.Gm
