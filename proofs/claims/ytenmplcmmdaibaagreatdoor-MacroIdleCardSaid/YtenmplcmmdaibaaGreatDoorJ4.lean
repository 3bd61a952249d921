/- Texts of this proof, joined. -/
import Derived.Test.YtenmplcmmdaibaaGreatDoorJ2
import Derived.Test.YtenmplcmmdaibaaGreatDoorJ3
import Derived.Test.YtenmplcmmdaibaaGreatDoorCards
import Derived.Test.YtenmplcmmdaibaaGreatDoorTie
import Derived.WalkKit
import Derived.ProofKit
import Derived.OpenShut
import Derived.Deep.DeepHandedRow
import Derived.Lib.LaidTab
import Derived.Lib.Bytealg
set_option linter.unusedVariables false
set_option linter.unusedSimpArgs false
namespace Go.Proofs.YtenmplcmmdaibaaGreatDoor
open Go.ChangeShapes Go.WideShapes Go.ChangeAt Go.RowKit Go.Gm
theorem own : ownKnob Tryz.prog.godebug = none := by kernel_rfl
theorem laidOut : laidOutB Tryz.prog = true := by kernel_rfl
theorem gTab : Tryz.prog.globalNamed "internal/strconv.uint64pow10" = some 1 := by kernel_rfl
theorem gTabType : (Tryz.prog.globals[1]?).map (·.type) = some 172 := by kernel_rfl
def flatD : Nat → DataW Unit → List Value
 | _, .lit (.int k n) => [.int k n]
 | f + 1, .agg ds => ds.flatMap (flatD f)
 | _, _ => []
def Mb : List (String × DataW Unit) := [("math/bits.deBruijn32tab", Rows.laid_math_bits_deBruijn32tab), ("math/bits.deBruijn64tab", Rows.laid_math_bits_deBruijn64tab), ("internal/strconv.uint64pow10", Rows.laid_internal_strconv_uint64pow10)]
theorem pow_data : (Rows.laid_internal_strconv_uint64pow10 : DataW Unit) = Lib.tabData .u64 Lib.pow10Tab := by kernel_rfl
theorem table {W : World} (h : laidMetH Tryz.prog Mb W) : Lib.TabIs Tryz.prog W "internal/strconv.uint64pow10" .u64 Lib.pow10Tab := by
 have h' : laidMet Tryz.prog Mb W := h
 obtain ⟨ps, ⟨g1, t1, c1, f1, p1, q1, e1, e2, e3, e4, ⟨g2, t2, c2, f2, p2, q2, e5, e6, e7, e8, ⟨g', t', cs, fuel, p, q, hg', ht', hvar, hd, _, _⟩, _⟩, _⟩, _⟩ := h'
 obtain rfl := Option.some.inj (gTab.symm.trans hg')
 obtain rfl := Option.some.inj (gTabType.symm.trans ht')
 unfold Lib.TabIs
 rw [hvar]
 rw [pow_data] at hd
 rw [← Lib.cells_of_tab Tryz.underlying172 Tryz.underlying128 (by kernel_rfl) (by kernel_rfl) hd]
theorem fixed {W : World} (h : laidMetH Tryz.prog Mb W) : ∀ b cs, FixT b = some cs → 0 < cs.size ∧ ∃ t fr, W.heap[b]? = some (.cells cs t fr) := by
 intro b cs hb
 have ht := table h
 unfold FixT at hb
 split at hb
 ·rename_i e
  subst e
  cases hb
  refine ⟨by decide, ?_⟩
  unfold Lib.TabIs World.var? at ht
  rw [gTab] at ht
  simp only [Option.bind_some] at ht
  split at ht
  ·rename_i cs t fr hh
   cases ht
   exact ⟨t, fr, hh⟩
  ·cases ht
 ·cases hb
def layCells (h : Array Obj) (g : Nat) (vs : Array Value) : Array Obj := h.modify g fun
 | .cells _ t frozen => .cells vs t frozen
 | o => o
def layAll (h : Array Obj) (x : Nat × DataW Unit) : Array Obj := layCells h x.1 (flatD 4 x.2).toArray
noncomputable def Nj (os : Os) : World :=
 { World.holding Tryz.prog os ⟨#[], #[], []⟩ with heap := [(2, Rows.laid_math_bits_deBruijn32tab), (3, Rows.laid_math_bits_deBruijn64tab), (1, Rows.laid_internal_strconv_uint64pow10)].foldl layAll (World.holding Tryz.prog os ⟨#[], #[], []⟩).heap }
theorem laid_met (os : Os) (args : Array Value) : laidMet Tryz.prog Mb ((Nj os).forCall (fun _ _ => 0) ⟨#[], args, []⟩).memory :=
 laidMet_of_run' 8 (by kernel_rfl) (by kernel_rfl)
theorem ndsSupp : O2 Tryz.prog 4 25 = true := by kernel_rfl
theorem nat_u8 {n : Int} (h : (Lit.int .u8 n).wf = true) : ∃ m : Nat, n = (m : Int) ∧ m < 256 := by
 obtain ⟨h1, h2⟩ := wf_u8 h
 exact ⟨n.toNat, by omega, by omega⟩
end Go.Proofs.YtenmplcmmdaibaaGreatDoor
namespace Go.Gm
def Ga : Aa → Bool
 | .bool _ => true
 | .int _ _ => true
 | .str _ => true
 | .sl _ .no => true
 | .sl _ .tight => true
 | _ => false
class Pl {α : Type} (f : α → List Aa) : Prop where
 pl : ∀ a, (f a).all Ga = true
instance : Pl cB := ⟨fun _ => rfl⟩
instance : Pl cU := ⟨fun _ => rfl⟩
instance : Pl cI := ⟨fun _ => rfl⟩
instance : Pl cN := ⟨fun _ => rfl⟩
instance : Pl cY := ⟨fun _ => rfl⟩
instance : Pl cS := ⟨fun _ => rfl⟩
instance : Pl cNd := ⟨fun _ => rfl⟩
theorem plnC_scal {c : Aa} (h : Ga c = true) : c.isScal = true := by cases c <;> first | rfl | (simp [Ga] at h)
theorem plnC_imm {c : Aa} (h : Ga c = true) : Bm c = true := by
 cases c <;> first | rfl | (simp [Ga] at h)
 rename_i es tk; cases tk <;> first | rfl | (simp [Ga] at h)
theorem plnC_frz {c : Aa} {H : Ab} {n d : Nat} (h : Ga c = true) : frz H n (d + 1) c = some c := by
 cases c <;> first | (simp [frz]; done) | (simp [Ga] at h)
 rename_i es tk; cases tk <;> first | (simp [frz]; done) | (simp [Ga] at h)
theorem GI {H : Ab} {n d : Nat} : ∀ {cs : List Aa}, cs.all Ga = true → DN H n (d + 2) cs = some cs
 | [], _ => by simp [DN]
 | c :: cs, h => by
  simp only [List.all_cons, Bool.and_eq_true] at h
  simp [DN, plnC_frz h.1, GI h.2]
section
variable {α : Type} {f : α → List Aa} {l : List α} {sz i n : Nat} {a : α} {H : Ab} {id : Nat} {K : IntKind}
def flat (f : α → List Aa) (l : List α) : List Aa := l.flatMap f
@[simp] theorem flat_nil : flat f [] = [] := (rfl)
theorem Cp : flat f (a :: l) = f a ++ flat f l := by simp [flat]
theorem flat_append {m : List α} : flat f (l ++ m) = flat f l ++ flat f m := by simp [flat]
theorem K0 [hf : Sz f sz] : ∀ (l : List α), (flat f l).length = l.length * sz
 | [] => by simp
 | a :: l => by
  have := K0 l
  simp only [Cp, List.length_append, hf.len, List.length_cons, Nat.succ_mul]
  omega
theorem OO [hp : Pl f] : ∀ (l : List α), (flat f l).all Ga = true
 | [] => rfl
 | a :: l => by simp only [Cp, List.all_append, Bool.and_eq_true]; exact ⟨hp.pl a, OO l⟩
theorem flat_imm [hp : Pl f] (l : List α) : (flat f l).all Bm = true := by
 rw [List.all_eq_true]; intro c hc; exact plnC_imm (List.all_eq_true.1 (OO (f := f) l) c hc)
theorem N9 [hf : Sz f sz] : ∀ (l : List α) (i : Nat), (flat f l).drop (i * sz) = flat f (l.drop i)
 | [], i => by simp
 | a :: l, 0 => by simp
 | a :: l, i + 1 => by
  have := N9 l i
  rw [List.drop_succ_cons, ← this, Cp, Nat.succ_mul, Nat.add_comm, List.drop_append, hf.len, List.drop_of_length_le (by rw [hf.len]; omega), List.nil_append]
  congr 1; omega
theorem N8 [hf : Sz f sz] : ∀ (l : List α) (i : Nat), (flat f l).take (i * sz) = flat f (l.take i)
 | [], i => by simp
 | a :: l, 0 => by simp
 | a :: l, i + 1 => by
  have := N8 l i
  rw [List.take_succ_cons, Cp, Cp, ← this, Nat.succ_mul, Nat.add_comm, List.take_append, hf.len, List.take_of_length_le (by rw [hf.len]; omega)]
  congr 2; omega
theorem flat_at [hf : Sz f sz] (h : i < l.length) : ((flat f l).drop (i * sz)).take sz = f l[i] := by
 rw [N9, List.drop_eq_getElem_cons h, Cp, List.take_append_of_le_length (by rw [hf.len]; omega), List.take_of_length_le (by rw [hf.len]; omega)]
theorem flat_set [hf : Sz f sz] (h : i < l.length) : DI (flat f l) (i * sz) sz (f a) = flat f (l.set i a) := by
 have e : l.set i a = l.take i ++ a :: l.drop (i + 1) := by rw [List.set_eq_take_append_cons_drop, if_pos h]
 have e2 : i * sz + sz = (i + 1) * sz := by rw [Nat.succ_mul]
 unfold DI
 rw [e, e2, N8, N9, flat_append, Cp]
 simp
theorem flat_le [hf : Sz f sz] (h : i < l.length) : i * sz + sz ≤ (flat f l).length := by
 rw [K0, ← Nat.succ_mul]; exact Nat.mul_le_mul_right _ h
theorem Ek {g off cap : Nat} {ex : Bool} (h : i < n) : A4 sz (.ms id g off n cap sz ex) (.int K (i : Int)) = some (.ptr id g (off + i * sz)) := by
 unfold A4
 simp only []
 rw [if_pos ⟨trivial, by omega, by omega⟩]; simp
theorem HJ [hf : Sz f 1] (hg : A5 H id 0 = some (flat f l)) (h : i < l.length) : Ad false 1 (.ptr id 0 i) H = (f l[i])[0]? := by
 have h1 := flat_at (f := f) (sz := 1) h
 have h2 := flat_le (f := f) (sz := 1) h
 simp only [Nat.mul_one] at h1 h2
 simp only [Ad, hg, Option.bind_some, Bool.false_eq_true, if_false]
 rw [← h1]; simp
theorem FC [hf : Sz f sz] {v : Aa} (hg : A5 H id 0 = some (flat f l)) (h : i < l.length) (hv : v.acells = some (f a)) : Al sz (.ptr id 0 (i * sz)) v H = some (FZ H id 0 (flat f (l.set i a))) := by
 simp only [Al, hg, Option.bind_some, hv, hf.len, flat_le h, and_self, if_true, flat_set h]
theorem Ri : ∀ (n : Nat), repl n (f a) = flat f (List.replicate n a)
 | 0 => rfl
 | n + 1 => by
  have := Ri n
  simp only [repl, List.replicate_succ, List.flatten_cons, Cp] at this ⊢
  rw [this]
theorem F6 [hf : Sz f sz] [hp : Pl f] {bytes : Nat} (hb : n * bytes ≤ 140737488355328) (hn : n ≤ 140737488355328) : ET sz bytes (some (f a)) (.int .i64 (n : Int)) (.int .i64 (n : Int)) H = some (.ms H.length 0 0 n n sz true, H ++ [.cel 0 (flat f (List.replicate n a))]) := by
 have h1 : ((n : Int) * (bytes : Int)) ≤ 140737488355328 := by
   have : ((n * bytes : Nat) : Int) ≤ 140737488355328 := by omega
   simpa using this
 have h2 : (f a).all Aa.isScal = true := by rw [List.all_eq_true]; intro c hc; exact plnC_scal (List.all_eq_true.1 (hp.pl a) c hc)
 unfold ET
 simp only [Option.bind_some]
 rw [if_pos ⟨h2, hf.len a, by omega, by omega, h1, by omega⟩]
 simp only [Int.toNat_natCast, Ri]
theorem Qr [hf : Sz f sz] : ∀ (l : List α), Fa sz l.length (flat f l) = enL f l
 | [] => rfl
 | a :: l => by
  have := Qr l
  simp only [List.length_cons, Fa, Cp, enL, List.map_cons, List.take_append_of_le_length (Nat.le_of_eq (hf.len a).symm), List.take_of_length_le (Nat.le_of_eq (hf.len a)), List.drop_left' (hf.len a)]
  rw [this]; rfl
theorem fall_ms [hf : Sz f sz] [hp : Pl f] {b d cap : Nat} {ex : Bool} (hg : A5 H id 0 = some (flat f l)) (hi : b ≤ id) : Fl H b (d + 3) (.ms id 0 0 l.length cap sz ex) = some (.sl (enL f l) .no) := by
 have h1 : ¬ id < b := by omega
 unfold Fl
 simp only [frz, h1, if_false, hg, Option.bind_some, List.drop_zero, Nat.zero_add, K0, Nat.le_refl, if_true, List.take_of_length_le (Nat.le_of_eq (K0 (f := f) l)), GI (OO (f := f) l), flat_imm (f := f) l, Qr, Option.map_some, forget, Fz, fgt]
@[simp] theorem Rg {G : Ab} {g : Nat} {cs : List Aa} : FZ (H ++ G) H.length g cs = H ++ FZ G 0 g cs := Pp (k := 0)
@[simp] theorem setC_appK {G : Ab} {g k : Nat} {cs : List Aa} : FZ (H ++ G) (H.length + k) g cs = H ++ FZ G k g cs := Pp
@[simp] theorem Re {G : Ab} {g g' : Nat} {c cs : List Aa} : FZ (.cel g' c :: G) 0 g cs = .cel g cs :: G := (rfl)
@[simp] theorem setC_suc {G : Ab} {g k : Nat} {b : Blk} {cs : List Aa} : FZ (b :: G) (k + 1) g cs = b :: FZ G k g cs := Rf

end
theorem Ba {H : Ab} {p : Nat} {cs : List Aa} (hg : H[p]? = some (.cel 0 cs)) : A5 H p 0 = some cs := by simp [A5, hg]
theorem load_left {a : Bool} {sz p g o : Nat} {H G : Ab} {v : Aa} (h : Ad a sz (.ptr p g o) H = some v) : Ad a sz (.ptr p g o) (H ++ G) = some v := by
 unfold Ad at h ⊢
 simp only at h ⊢
 cases hg : A5 H p g with
 | none => rw [hg] at h; cases h
 | some cs =>
  have : A5 (H ++ G) p g = some cs := by
   have hlt : p < H.length := by
    by_cases hl : p < H.length
    ·exact hl
    ·unfold A5 at hg; rw [List.getElem?_eq_none (by omega)] at hg; cases hg
   rw [get_old hlt]; exact hg
  rw [this]; rw [hg] at h; exact h
theorem CI {H : Ab} {p : Nat} {cs cs' : List Aa} (hg : H[p]? = some (.cel 0 cs)) : FZ H p 0 cs' = H.set p (.cel 0 cs') := by simp [FZ, hg]
theorem A9 {cs : List Aa} {B : Ab} : (B ++ [Blk.cel 0 cs])[B.length]? = some (.cel 0 cs) := by simp
theorem BJ {B : Ab} {b b' : Blk} : (B ++ [b]).set B.length b' = B ++ [b'] := by simp
end Go.Gm
namespace Go.Gm
theorem GMb : (((((((∀ {α β : Type} (a : α) (f : α → Option β), Option.bind (Option.some a) f = f a) ∧
 (∀ (v : Aa) (l : List Aa), ag (v :: l) 0 = v)) ∧
 ((∀ (a v : Aa) (l : List Aa), ag (a :: v :: l) 1 = v) ∧
 (∀ (a b v : Aa) (l : List Aa), ag (a :: b :: v :: l) 2 = v))) ∧
 (((∀ (a b c v : Aa) (l : List Aa), ag (a :: b :: c :: v :: l) 3 = v) ∧
 (∀ (a b c d v : Aa) (l : List Aa), ag (a :: b :: c :: d :: v :: l) 4 = v)) ∧
 ((∀ (a b c d e v : Aa) (l : List Aa), ag (a :: b :: c :: d :: e :: v :: l) 5 = v) ∧
 (∀ {ek : EqK} {k : IntKind} {a b : Int}, Af ek BinOp.lss (Aa.int k a) (Aa.int k b) = Option.some (Aa.bool (Decidable.decide (a < b))))))) ∧
 ((((∀ {ek : EqK} {k : IntKind} {a b : Int}, Af ek BinOp.gtr (Aa.int k a) (Aa.int k b) = Option.some (Aa.bool (Decidable.decide (a > b)))) ∧
 (∀ {ek : EqK} {k : IntKind} {a b : Int}, Af ek BinOp.leq (Aa.int k a) (Aa.int k b) = Option.some (Aa.bool (Decidable.decide (a ≤ b))))) ∧
 ((∀ {ek : EqK} {k : IntKind} {a b : Int}, Af ek BinOp.geq (Aa.int k a) (Aa.int k b) = Option.some (Aa.bool (Decidable.decide (a ≥ b)))) ∧
 (∀ {ek : EqK} {k : IntKind} {a b : Int}, Af ek BinOp.eql (Aa.int k a) (Aa.int k b) = Option.some (Aa.bool (a == b))))) ∧
 (((∀ {ek : EqK} {k : IntKind} {a b : Int}, Af ek BinOp.neq (Aa.int k a) (Aa.int k b) = Option.some (Aa.bool (a != b))) ∧
 (∀ {ek : EqK} {k : IntKind} {a b : Int}, Af ek BinOp.add (Aa.int k a) (Aa.int k b) = Option.some (Aa.int k (IntKind.wrap k (a + b))))) ∧
 ((∀ {ek : EqK} {k : IntKind} {a b : Int}, Af ek BinOp.sub (Aa.int k a) (Aa.int k b) = Option.some (Aa.int k (IntKind.wrap k (a - b)))) ∧
 ((∀ {ek : EqK} {k : IntKind} {a b : Int}, Af ek BinOp.mul (Aa.int k a) (Aa.int k b) = Option.some (Aa.int k (IntKind.wrap k (a * b)))) ∧
 (∀ (a b : Out), Am (Aa.bool Bool.true) a b = a)))))) ∧
 (((((∀ (a b : Out), Am (Aa.bool Bool.false) a b = b) ∧
 (∀ (a b : Aa), A7 (Aa.bool Bool.true) a b = Option.some a)) ∧
 ((∀ (a b : Aa), A7 (Aa.bool Bool.false) a b = Option.some b) ∧
 (∀ {kv : Aa → Out} (x : Option Aa), gk (Aa.bool Bool.true) Bool.true x kv = Option.bind x kv))) ∧
 (((∀ {kv : Aa → Out} (x : Option Aa), gk (Aa.bool Bool.false) Bool.false x kv = Option.bind x kv) ∧
 (∀ {kv : Aa → Out} (x : Option Aa), gk (Aa.bool Bool.true) Bool.false x kv = kv Bu)) ∧
 ((∀ {kv : Aa → Out} (x : Option Aa), gk (Aa.bool Bool.false) Bool.true x kv = kv Bu) ∧
 ((∀ {kv : Aa → Out} (w : Bool) (x : Option Aa), gk (Aa.tup []) w x kv = kv Bu) ∧
 (∀ {x : Option Aa} {p : Bool → Aa → Prop} {k : Aa → Out}, gkc (Aa.bool Bool.true) Bool.true x p k = bC x (p Bool.true) k))))) ∧
 ((((∀ {x : Option Aa} {p : Bool → Aa → Prop} {k : Aa → Out}, gkc (Aa.bool Bool.false) Bool.false x p k = bC x (p Bool.true) k) ∧
 (∀ {x : Option Aa} {p : Bool → Aa → Prop} {k : Aa → Out}, gkc (Aa.bool Bool.true) Bool.false x p k = chk (p Bool.false Bu) (k Bu))) ∧
 ((∀ {x : Option Aa} {p : Bool → Aa → Prop} {k : Aa → Out}, gkc (Aa.bool Bool.false) Bool.true x p k = chk (p Bool.false Bu) (k Bu)) ∧
 (∀ {x : Option Aa} {p : Bool → Aa → Prop} {k : Aa → Out} {w : Bool}, gkc (Aa.tup []) w x p k = chk (p Bool.false Bu) (k Bu)))) ∧
 (((∀ {v : Aa} {p : Aa → Prop} {k : Aa → Out}, bC (Option.some v) p k = chk (p v) (k v)) ∧
 (∀ {x : Out}, chk True x = x)) ∧
 ((∀ {H0 H : Ab} {k : Aa → Ab → Out} (x : Out), gbK H0 (Aa.bool Bool.true) Bool.true H x k = bK H0 x k) ∧
 ((∀ {H0 H : Ab} {k : Aa → Ab → Out} (x : Out), gbK H0 (Aa.bool Bool.false) Bool.false H x k = bK H0 x k) ∧
 (∀ {H0 H : Ab} {k : Aa → Ab → Out} (x : Out), gbK H0 (Aa.bool Bool.true) Bool.false H x k = k Bu H))))))) ∧
 ((((((∀ {H0 H : Ab} {k : Aa → Ab → Out} (x : Out), gbK H0 (Aa.bool Bool.false) Bool.true H x k = k Bu H) ∧
 (∀ {H0 H : Ab} {k : Aa → Ab → Out} (w : Bool) (x : Out), gbK H0 (Aa.tup []) w H x k = k Bu H)) ∧
 ((∀ {H0 H : Ab} {k : Aa → Ab → Out} (x : Out), gbP H0 (Aa.bool Bool.true) Bool.true H x k = bP H0 x k) ∧
 (∀ {H0 H : Ab} {k : Aa → Ab → Out} (x : Out), gbP H0 (Aa.bool Bool.false) Bool.false H x k = bP H0 x k))) ∧
 (((∀ {H0 H : Ab} {k : Aa → Ab → Out} (x : Out), gbP H0 (Aa.bool Bool.true) Bool.false H x k = k Bu H) ∧
 (∀ {H0 H : Ab} {k : Aa → Ab → Out} (x : Out), gbP H0 (Aa.bool Bool.false) Bool.true H x k = k Bu H)) ∧
 ((∀ {H0 H : Ab} {k : Aa → Ab → Out} (w : Bool) (x : Out), gbP H0 (Aa.tup []) w H x k = k Bu H) ∧
 (∀ {H : Ab} {k : Aa → Ab → Out} (x : Out), gbN (Aa.bool Bool.true) Bool.true H x k = Cj x k)))) ∧
 ((((∀ {H : Ab} {k : Aa → Ab → Out} (x : Out), gbN (Aa.bool Bool.false) Bool.false H x k = Cj x k) ∧
 (∀ {H : Ab} {k : Aa → Ab → Out} (x : Out), gbN (Aa.bool Bool.true) Bool.false H x k = k Bu H)) ∧
 ((∀ {H : Ab} {k : Aa → Ab → Out} (x : Out), gbN (Aa.bool Bool.false) Bool.true H x k = k Bu H) ∧
 (∀ {H : Ab} {k : Aa → Ab → Out} (w : Bool) (x : Out), gbN (Aa.tup []) w H x k = k Bu H))) ∧
 (((∀ {H : Ab} {k : Aa → Ab → Out} (v : Aa), Cj (Option.some (Res.ret v, H)) k = k v H) ∧
 (∀ {H0 H : Ab} {k : Aa → Ab → Out} (v : Aa), bK H0 (Option.some (Res.ret v, H)) k = k v H)) ∧
 ((∀ {H0 H : Ab} {k : Aa → Ab → Out} (v : Aa), bP H0 (Option.some (Res.ret v, H)) k = k v H) ∧
 ((∀ {H0 H : Ab} (v : Aa), rK H0 v H = Option.some (Res.ret v, H)) ∧
 (∀ {H H0 : Ab} {v : Aa}, rKN H0 v H = Option.some (Res.ret (forget v), H))))))) ∧
 (((((∀ {c : Bool}, unA UnOp.not (Aa.bool c) = Option.some (Aa.bool !c)) ∧
 (∀ {H : Ab} (v : Aa), retV (Option.some v) H = Option.some (Res.ret v, H))) ∧
 ((∀ {H : Ab}, AL (Option.some H) = Option.some (Res.ret Aa.undef, H)) ∧
 (∀ {H : Ab} (v : Aa), BB (Option.some (v, H)) = Option.some (Res.ret v, H)))) ∧
 (((∀ {H : Ab} {k : Aa → Ab → Out} (v : Aa), A1 (Option.some (v, H)) k = k v H) ∧
 (∀ {a b : Int}, (a == b) = decide (a = b))) ∧
 ((∀ {a b : Int}, (a != b) = !decide (a = b)) ∧
 (((!true) = false) ∧
 ((!false) = true))))) ∧
 (((((false = true) = False) ∧
 (∀ (b : Bool), (false || b) = b)) ∧
 ((∀ (b : Bool), (true || b) = true) ∧
 (∀ (b : Bool), (b || false) = b))) ∧
 (((∀ (b : Bool), (b || true) = true) ∧
 (∀ (b : Bool), (b && true) = b)) ∧
 ((∀ (b : Bool), (true && b) = b) ∧
 ((∀ (b : Bool), (b && false) = false) ∧
 (∀ (b : Bool), (false && b) = false)))))))) :=
 ⟨⟨⟨⟨⟨⟨@Bq, @AC⟩, ⟨@CT, @Dp⟩⟩, ⟨⟨@FU, @G8⟩, ⟨@Lw, @AO⟩⟩⟩, ⟨⟨⟨@CW, @Ld⟩, ⟨@Le, @D0⟩⟩, ⟨⟨@Im, @BA⟩, ⟨@Eu, ⟨@Gx, @AM⟩⟩⟩⟩⟩, ⟨⟨⟨⟨@AK, @BR⟩, ⟨@BZ, @Iw⟩⟩, ⟨⟨@Oi, @Qc⟩, ⟨@Oh, ⟨@gk_s, @Nq⟩⟩⟩⟩, ⟨⟨⟨@Nt, @Nr⟩, ⟨@Ns, @R1⟩⟩, ⟨⟨@NM, @GX⟩, ⟨@N3, ⟨@N6, @N4⟩⟩⟩⟩⟩⟩, ⟨⟨⟨⟨⟨@N5, @R4⟩, ⟨@Nu, @Nx⟩⟩, ⟨⟨@Nv, @Nw⟩, ⟨@R2, @Ny⟩⟩⟩, ⟨⟨⟨@N2, @Nz⟩, ⟨@N1, @R3⟩⟩, ⟨⟨@F9, @Fo⟩, ⟨@D5, ⟨@NV, @JM⟩⟩⟩⟩⟩, ⟨⟨⟨⟨@Jo, @F5⟩, ⟨@DU, @C7⟩⟩, ⟨⟨@BO, @Ev⟩, ⟨@Ik, ⟨Bool.not_true, Bool.not_false⟩⟩⟩⟩, ⟨⟨⟨@Bool.false_eq_true, @Bool.false_or⟩, ⟨@Bool.true_or, @Bool.or_false⟩⟩, ⟨⟨@Bool.or_true, @Bool.and_true⟩, ⟨@Bool.true_and, ⟨@Bool.and_false, @Bool.false_and⟩⟩⟩⟩⟩⟩⟩
theorem GMc : ((∀ (f : (List Aa → Ab → Out) → Out) (j : List Aa → Ab → Out), AN f j = f j) ∧ (∀ h : Decidable True, @decide True h = true) ∧ (∀ h : Decidable False, @decide False h = false) ∧ (∀ (α : Type) (h : Decidable True) (t e : α), @ite α True h t e = t) ∧ (∀ (α : Type) (h : Decidable False) (t e : α), @ite α False h t e = e)) :=
 ⟨fun _ _ => rfl, fun _ => decide_true _, fun _ => decide_false _, fun _ _ _ _ => if_true _ _, fun _ _ _ _ => if_false _ _⟩
end Go.Gm
namespace Go.Gm
theorem st_cel {H : Ab} {p o : Nat} {cs : List Aa} {v : Aa} (h : H[p]? = some (.cel 0 cs)) (hv : v.isScal = true) (ho : o < cs.length) : Al 1 (.ptr p 0 o) v H = some (H.set p (.cel 0 (cs.set o v))) := by
 have hc : v.acells = some [v] := by cases v <;> first | rfl | (simp [Aa.isScal] at hv)
 simp only [Al, Ba h, Bq, hc, List.length_singleton]
 rw [if_pos ⟨trivial, by omega⟩, CI h, show DI cs o 1 [v] = cs.set o v from by rw [List.set_eq_take_append_cons_drop, if_pos ho]; simp [DI]]
theorem st_agg {H : Ab} {p sz : Nat} {cs ws : List Aa} (h : H[p]? = some (.cel 0 cs)) (hl : cs.length = sz) (hl2 : ws.length = sz) (hs : ws.all Aa.isScal = true) : Al sz (.ptr p 0 0) (.agg ws) H = some (H.set p (.cel 0 ws)) := by
 simp only [Al, Ba h, Bq, EM hs, hl, hl2, Nat.zero_add, Nat.le_refl, and_self, if_true, JO hl, CI h]
theorem PT {H : Ab} {p sz : Nat} {cs : List Aa} (h : H[p]? = some (.cel 0 cs)) (hl : cs.length = sz) : Ad true sz (.ptr p 0 0) H = some (.agg cs) := by
 simp only [Ad, Ba h, Bq, if_true, List.drop_zero, hl, Nat.zero_add, Nat.le_refl]
 rw [List.take_of_length_le (Nat.le_of_eq hl)]
theorem Bw {H : Ab} {p o sz : Nat} {cs : List Aa} (h : H[p]? = some (.cel 0 cs)) : Ad false sz (.ptr p 0 o) H = cs[o]? := by
 simp only [Ad, Ba h, Bq]; rfl
def Q9 : Aa → Bool
 | .agg cs => cs.all Ga
 | v => Ga v
theorem plnT_frz {v : Aa} {H : Ab} {n d : Nat} (h : Q9 v = true) : frz H n (d + 3) v = some v := by
 cases v with
 | agg cs =>
  have h' : cs.all Ga = true := h
  simp only [frz, GI h', Option.map_some]
 | _ => exact plnC_frz (d := d + 2) h
theorem Ro {H : Ab} {n d : Nat} : ∀ {cs : List Aa}, cs.all Q9 = true → DN H n (d + 4) cs = some cs
 | [], _ => by simp [DN]
 | c :: cs, h => by
  simp only [List.all_cons, Bool.and_eq_true] at h
  simp [DN, plnT_frz h.1, Ro h.2]
theorem rP_aggP {H G : Ab} {cs : List Aa} (h : cs.all Ga = true) : rP H (.agg cs) (H ++ G) = some (.ret (.agg cs), H) := by
 rw [rP_eq _ (by simp)]
 simp only [frz, GI h, Option.map_some]
theorem rP_tupP {H G : Ab} {cs : List Aa} (h : cs.all Q9 = true) : rP H (.tup cs) (H ++ G) = some (.ret (.tup cs), H) := by
 rw [rP_eq _ (by simp)]
 simp only [frz, Ro h, Option.map_some]
theorem KG {g o : Nat} {v : Aa} {cs : List Aa} {G : Ab} (hv : v.isScal = true) (h : o < cs.length) : Al 1 (.ptr 0 g o) v (.cel g cs :: G) = some (.cel g (cs.set o v) :: G) := by
 have hc : v.acells = some [v] := by cases v <;> first | rfl | (simp [Aa.isScal] at hv)
 rw [Pi, hc]
 simp only [Bq, List.length_singleton]
 rw [if_pos ⟨trivial, by omega⟩, List.set_eq_take_append_cons_drop, if_pos h]
 simp [DI]
theorem store_agg {sz g : Nat} {cs ws : List Aa} {G : Ab} (h : cs.length = sz) (h2 : ws.length = sz) (h3 : ws.all Aa.isScal = true) : Al sz (.ptr 0 g 0) (.agg ws) (.cel g cs :: G) = some (.cel g ws :: G) := MR (EM h3) h h2
theorem app_app (a b c : Ab) : a ++ b ++ c = a ++ (b ++ c) := List.append_assoc a b c
theorem len_app (a b : Ab) : (a ++ b).length = a.length + b.length := List.length_append
theorem Ca (x : Aa) (b : List Aa) : (x :: b)[0]? = some x := (rfl)
theorem DY (x : Aa) (b : List Aa) (i : Nat) : (x :: b)[i + 1]? = b[i]? := (rfl)
def Gl (x : Nd) : List Aa := [.int .i64 x.k0, .int .i64 x.k1, .int .i64 x.k2, .int .i64 x.k3]
theorem ld_kids (x : Nd) (H : Ab) : Ad true 4 (.cptr (cNd x) 1) H = some (.agg (Gl x)) := (rfl)
theorem ag_kid (x : Nd) {k : Nat} (hk : k < 4) (K : IntKind) : Kx false 4 1 (.agg (Gl x)) (.int K (k : Int)) = some (.int .i64 (x.kid k)) := by
 match k, hk with
 | 0, _ => rfl
 | 1, _ => rfl
 | 2, _ => rfl
 | 3, _ => rfl
theorem CL (g : Nat) (x : Nd) (G : Ab) : Ad true 4 (.ptr 0 g 1) (.cel g (cNd x) :: G) = some (.agg (Gl x)) := by
 rw [show Ad true 4 (.ptr 0 g 1) (.cel g (cNd x) :: G) = if 1 + 4 ≤ (cNd x).length then some (.agg (((cNd x).drop 1).take 4)) else none from by simp only [Ad, Ky]; rfl]
 rfl
theorem CN (x : Nd) : (cNd x).length = 5 := (rfl)
theorem HPa : (((∀ (H G : Ab) (a : Bool) (sz k g o : Nat), Ad a sz (.ptr (H.length + k) g o) (H ++ G) = Ad a sz (.ptr k g o) G) ∧
  (∀ (H G : Ab) (a : Bool) (sz g o : Nat), Ad a sz (.ptr H.length g o) (H ++ G) = Ad a sz (.ptr 0 g o) G)) ∧
  ((∀ (b : Blk) (G : Ab) (a : Bool) (sz k g o : Nat), Ad a sz (.ptr (k + 1) g o) (b :: G) = Ad a sz (.ptr k g o) G) ∧
  (∀ (cs : List Aa) (G : Ab) (sz g o : Nat), Ad false sz (.ptr 0 g o) (.cel g cs :: G) = cs[o]?) ∧
  (∀ (cs : List Aa) (G : Ab) (sz g : Nat), cs.length = sz → Ad true sz (.ptr 0 g 0) (.cel g cs :: G) = some (.agg cs)))) ∧
 (((∀ (H G : Ab) (v : Aa) (sz k g o : Nat), Al sz (.ptr (H.length + k) g o) v (H ++ G) = (Al sz (.ptr k g o) v G).map (H ++ ·)) ∧
  (∀ (H G : Ab) (v : Aa) (sz g o : Nat), Al sz (.ptr H.length g o) v (H ++ G) = (Al sz (.ptr 0 g o) v G).map (H ++ ·))) ∧
  ((∀ (b : Blk) (G : Ab) (v : Aa) (sz k g o : Nat), Al sz (.ptr (k + 1) g o) v (b :: G) = (Al sz (.ptr k g o) v G).map (b :: ·)) ∧
  (∀ (cs : List Aa) (G : Ab) (v : Aa) (g o : Nat), v.isScal = true → o < cs.length → Al 1 (.ptr 0 g o) v (.cel g cs :: G) = some (.cel g (cs.set o v) :: G)) ∧
  (∀ (cs ws : List Aa) (G : Ab) (sz g : Nat), cs.length = sz → ws.length = sz → ws.all Aa.isScal = true → Al sz (.ptr 0 g 0) (.agg ws) (.cel g cs :: G) = some (.cel g ws :: G)))) ∧
 ((∀ (cs : List Aa) (H : Ab), cs.all Aa.isScal = true → AD (some cs) H = some (.ptr H.length 0 0, H ++ [.cel 0 cs])) ∧
  (∀ (cs : List Aa) (H : Ab) (sz : Nat), cs.all Aa.isScal = true → cs.length = sz → Et true sz (.agg cs) H = some (.ptr H.length 0 0, H ++ [.cel 0 cs]))) :=
 ⟨⟨⟨fun _ _ _ _ _ _ _ => load_app, fun _ _ _ _ _ _ => GP⟩, fun _ _ _ _ _ _ _ => load_succ, fun _ _ _ _ _ => Nh, fun _ _ _ _ h => PH h⟩,
  ⟨⟨fun _ _ _ _ _ _ _ => QY, fun _ _ _ _ _ _ => FD⟩, fun _ _ _ _ _ _ _ => store_succ, fun _ _ _ _ _ h1 h2 => KG h1 h2, fun _ _ _ _ _ h1 h2 h3 => store_agg h1 h2 h3⟩,
  fun _ _ h => alloc_eq h, fun _ _ _ h1 h2 => Gw h1 h2⟩
theorem HPc : (((∀ (K : IntKind) (n : Int), (Aa.int K n).isScal = true) ∧ (∀ t : Bool, (Aa.bool t).isScal = true) ∧ (∀ s : List UInt8, (Aa.str s).isScal = true)) ∧
  ((∀ (es : List (List Aa)) (tk : Tok), (Aa.sl es tk).isScal = true) ∧ (∀ (id g off len cap sz : Nat) (ex : Bool), (Aa.ms id g off len cap sz ex).isScal = true) ∧ (∀ id g off : Nat, (Aa.ptr id g off).isScal = true)) ∧
  (∀ id : Nat, (Aa.mp id).isScal = true) ∧ (∀ (f : FuncId) (c : List Aa), (Aa.fn f c).isScal = true) ∧ (Aa.nilp.isScal = true) ∧ (Aa.nilmap.isScal = true) ∧ Aa.nilfn.isScal = true) ∧
 (((∀ (K : IntKind) (n : Int), Ga (Aa.int K n) = true) ∧ (∀ t : Bool, Ga (Aa.bool t) = true) ∧ (∀ s : List UInt8, Ga (Aa.str s) = true)) ∧
  ((∀ (es : List (List Aa)), Ga (Aa.sl es .no) = true) ∧ (∀ (es : List (List Aa)), Ga (Aa.sl es .tight) = true)) ∧
  ((∀ (K : IntKind) (n : Int), Q9 (Aa.int K n) = true) ∧ (∀ t : Bool, Q9 (Aa.bool t) = true) ∧ (∀ s : List UInt8, Q9 (Aa.str s) = true)) ∧
  ((∀ (es : List (List Aa)), Q9 (Aa.sl es .no) = true) ∧ (∀ (es : List (List Aa)), Q9 (Aa.sl es .tight) = true)) ∧ (∀ cs : List Aa, Q9 (.agg cs) = cs.all Ga)) ∧
 ((∀ (H G : Ab) (cs : List Aa), cs.all Ga = true → rP H (.agg cs) (H ++ G) = some (.ret (.agg cs), H)) ∧
  (∀ (H G : Ab) (cs : List Aa), cs.all Q9 = true → rP H (.tup cs) (H ++ G) = some (.ret (.tup cs), H)) ∧
  (∀ (H G : Ab) (t : Bool), rP H (.bool t) (H ++ G) = some (.ret (.bool t), H)) ∧
  (∀ (H G : Ab) (K : IntKind) (n : Int), rP H (.int K n) (H ++ G) = some (.ret (.int K n), H)) ∧
  (∀ (H G : Ab) (s : List UInt8), rP H (.str s) (H ++ G) = some (.ret (.str s), H))) :=
 ⟨⟨⟨fun _ _ => rfl, fun _ => rfl, fun _ => rfl⟩, ⟨fun _ _ => rfl, fun _ _ _ _ _ _ _ => rfl, fun _ _ _ => rfl⟩, fun _ => rfl, fun _ _ => rfl, rfl, rfl, rfl⟩,
  ⟨⟨fun _ _ => rfl, fun _ => rfl, fun _ => rfl⟩, ⟨fun _ => rfl, fun _ => rfl⟩, ⟨fun _ _ => rfl, fun _ => rfl, fun _ => rfl⟩, ⟨fun _ => rfl, fun _ => rfl⟩, fun _ => rfl⟩,
  fun _ _ _ h => rP_aggP h, fun _ _ _ h => rP_tupP h, fun _ _ _ => Mj, fun _ _ _ _ => Pt, fun _ _ _ => rP_str⟩
theorem HPd : ((∀ (H G : Ab) (v : Aa), rPN H v (H ++ G) = (Fl (H ++ G) H.length 8 v).map fun v => (.ret v, H)) ∧
  (∀ (H : Ab) (n d : Nat) (vs : List Aa), Fl H n (d + 1) (.tup vs) = (FK H n d vs).map .tup) ∧
  (∀ (H : Ab) (n d : Nat) (cs : List Aa), Fl H n (d + 1) (.agg cs) = (DO H n d cs).map .agg) ∧
  (∀ (H : Ab) (n d : Nat) (es : List (List Aa)) (tk : Tok), Fl H n (d + 1) (.sl es tk) = some (.sl es .no))) ∧
 ((∀ (H : Ab) (n d : Nat), FK H n (d + 1) [] = some []) ∧
  (∀ (H : Ab) (n d : Nat) (v : Aa) (vs : List Aa), FK H n (d + 1) (v :: vs) = (En H n d v).bind fun v' => (FK H n (d + 1) vs).map (v' :: ·)) ∧
  (∀ (H : Ab) (n d : Nat), DO H n (d + 1) [] = some []) ∧
  (∀ (H : Ab) (n d : Nat) (v : Aa) (vs : List Aa), DO H n (d + 1) (v :: vs) = (FN H n d v).bind fun v' => (DO H n (d + 1) vs).map (v' :: ·))) ∧
 ((∀ (H : Ab) (n d : Nat) (cs : List Aa), En H n (d + 1) (.agg cs) = (DO H n d cs).map .agg) ∧
  (∀ (H : Ab) (n d : Nat) (K : IntKind) (i : Int), En H n (d + 1) (.int K i) = some (.int K i)) ∧
  (∀ (H : Ab) (n d : Nat) (t : Bool), En H n (d + 1) (.bool t) = some (.bool t)) ∧
  (∀ (H : Ab) (n d : Nat) (s : List UInt8), En H n (d + 1) (.str s) = some (.str s)) ∧
  (∀ (H : Ab) (n d : Nat) (es : List (List Aa)) (tk : Tok), En H n (d + 1) (.sl es tk) = some (.sl es .no))) ∧
 ((∀ (H : Ab) (n d : Nat) (K : IntKind) (i : Int), FN H n (d + 1) (.int K i) = some (.int K i)) ∧
  (∀ (H : Ab) (n d : Nat) (t : Bool), FN H n (d + 1) (.bool t) = some (.bool t)) ∧
  (∀ (H : Ab) (n d : Nat) (s : List UInt8), FN H n (d + 1) (.str s) = some (.str s)) ∧
  (∀ (H : Ab) (n d : Nat) (es : List (List Aa)) (tk : Tok), FN H n (d + 1) (.sl es tk) = some (.sl es .no))) ∧
 ((∀ xs : List (Option Aa), Ll xs = (Q8 xs).map .tup) ∧ (Q8 [] = some []) ∧ (∀ (x : Option Aa) (xs : List (Option Aa)), Q8 (x :: xs) = x.bind fun v => (Q8 xs).map (v :: ·))) ∧
 ((∀ (v : Aa) (vs : List Aa), Aq 0 (.tup (v :: vs)) = some v) ∧ (∀ (v w : Aa) (vs : List Aa), Aq 1 (.tup (v :: w :: vs)) = some w) ∧ (∀ (v w u : Aa) (vs : List Aa), Aq 2 (.tup (v :: w :: u :: vs)) = some u)) :=
 ⟨⟨fun _ _ _ => DG, fun _ _ _ _ => EZ, fun _ _ _ _ => fall_agg, fun _ _ _ _ _ => KW⟩, ⟨fun _ _ _ => Dk, fun _ _ _ _ _ => C4, fun _ _ _ => HQ, fun _ _ _ _ _ => Gu⟩,
  ⟨fun _ _ _ _ => KU, fun _ _ _ _ _ => DZ, fun _ _ _ _ => fpart_bool, fun _ _ _ _ => fpart_str, fun _ _ _ _ _ => Kz⟩, ⟨fun _ _ _ _ _ => fcell_int, fun _ _ _ _ => Qj, fun _ _ _ _ => fcell_str, fun _ _ _ _ _ => M6⟩,
  ⟨fun _ => rfl, rfl, fun _ _ => rfl⟩, fun _ _ => rfl, fun _ _ _ => rfl, fun _ _ _ _ => rfl⟩
theorem HPe : (∀ (H : Ab) (j k : Nat), List.length H + j + k = List.length H + (j + k)) ∧ (∀ (H0 H : Ab) (v : Aa) (k : Aa → Ab → Out), bK H0 (some (.pan v, H)) k = some (.pan v, H)) ∧ (∀ (α β : Type) (a : α) (f : α → β), Option.map f (some a) = some (f a)) ∧ (∀ id g o : Nat, Ae (.ptr id g o) = some (.ptr id g o)) ∧ (∀ off id g o : Nat, Ac off (.ptr id g o) = some (.ptr id g (o + off))) ∧
 ((∀ a b c : Ab, a ++ b ++ c = a ++ (b ++ c)) ∧ (∀ (x : Blk) (b c : Ab), (x :: b) ++ c = x :: (b ++ c)) ∧ (∀ b : Ab, ([] : Ab) ++ b = b) ∧ (∀ a b : Ab, (a ++ b).length = a.length + b.length) ∧ (∀ (x : Blk) (b : Ab), (x :: b).length = b.length + 1) ∧ (([] : Ab).length = 0)) ∧
 ((∀ (x : Aa) (b : List Aa), (x :: b).length = b.length + 1) ∧ (([] : List Aa).length = 0) ∧ (∀ (x : Aa) (b : List Aa), (x :: b)[0]? = some x) ∧ (∀ (x : Aa) (b : List Aa) (i : Nat), (x :: b)[i + 1]? = b[i]?)) ∧
 ((∀ (x y : Aa) (b : List Aa), (x :: b).set 0 y = y :: b) ∧ (∀ (x y : Aa) (b : List Aa) (i : Nat), (x :: b).set (i + 1) y = x :: b.set i y) ∧ (∀ (p : Aa → Bool) (x : Aa) (b : List Aa), (x :: b).all p = (p x && b.all p)) ∧ (∀ p : Aa → Bool, ([] : List Aa).all p = true)) ∧
 (∀ s : List UInt8, B5 (.str s) = some (.int .i64 (s.length : Int))) :=
 ⟨fun _ _ _ => Nat.add_assoc _ _ _, fun _ _ _ _ => rfl, fun _ _ _ _ => rfl, fun _ _ _ => rfl, fun _ _ _ _ => rfl, ⟨app_app, fun _ _ _ => rfl, fun _ => rfl, len_app, fun _ _ => rfl, rfl⟩, ⟨fun _ _ => rfl, rfl, fun _ _ => rfl, fun _ _ _ => rfl⟩, ⟨fun _ _ _ => rfl, fun _ _ _ _ => rfl, fun _ _ _ => rfl, fun _ => rfl⟩, fun _ => rfl⟩
theorem HPz : ((∀ n : Nat, 0 + n = n) ∧ (∀ n : Nat, n + 0 = n) ∧ (∀ p : Prop, (p ∧ p) = p) ∧ (∀ p : Prop, (p ∧ True) = p) ∧ (∀ (α : Type) (a : α), (a = a) = True) ∧ (∀ b : Bool, (b && b) = b)) :=
 ⟨Nat.zero_add, Nat.add_zero, and_self, and_true, fun _ a => eq_self a, Bool.and_self⟩
end Go.Gm
namespace Go.Gm
def BS (L : List Nd) (i : Nat) (x : Nd) (c : Int) : Bool :=
 decide (0 ≤ c) && (decide (x.lv = 1 → c ≤ 255)) && decide (1 < x.lv → 0 < c → c ≤ i ∧ ∀ y, L[(c - 1).toNat]? = some y → y.lv = x.lv - 1)
def D9 (L : List Nd) (i : Nat) : Bool :=
 match L[i]? with
 | some x => decide (1 ≤ x.lv ∧ x.lv ≤ 1329) && (List.range 4).all fun k => BS L i x (x.kid k)
 | none => true
def Ar (L : List Nd) : Bool := (List.range L.length).all (D9 L)
theorem Rl (L : List Nd) (tk : Tok) (H : Ab) (hL : L.length < 1152921504606846976) : Sh.fb (.sl (enL cNd L) tk) H = some (.ret (.bool (Ar L)), H) := by
 unfold Sh.fb
 rw [show Ar L = (List.range L.length).all (D9 L) from rfl]
 have := DB L.length (D9 L) (fun i => [.sl (enL cNd L) tk, .int .i64 (i : Int)]) H (some (.ret (.bool true), H)) (some (.ret (.bool false), H)) hL (fun rec i hi => ?_) (fun rec => ?_)
  (G := fun rec1 vs H1 => Sh.f3g H rec1 (ag vs 0) (ag vs 1) H1)
 ·refine this.trans ?_
  cases (List.range L.length).all (D9 L) <;> rfl
 ·have hx : (i : Int) < (L.length : Int) := by omega
  have hg : L[i]? = some L[i] := List.getElem?_eq_getElem hi
  unfold Sh.f3g
  simp only [AC, CT, A2, Bq, AO, hx, decide_true, AM, Aw hi, Ai, Au, Nat.add_zero, Bd]
  by_cases h1 : L[i].lv < 1
  ·have : D9 L i = false := by simp only [D9, hg]; simp; intro; omega
   simp [h1, this]
  ·by_cases h2 : L[i].lv > 1329
   ·have : D9 L i = false := by simp only [D9, hg]; simp; intro; omega
    simp [h1, h2, this, Aw hi]
   ·have hd : D9 L i = (List.range 4).all fun k => BS L i L[i] (L[i].kid k) := by
     simp only [D9, hg]; rw [decide_eq_true (by omega)]; rfl
    simp only [h1, h2, decide_false, Oi, Bq, CW, BZ, AK, hd, Au, Nat.add_zero, Bd, Ai, Aw hi]
    have := DB 4 (fun k => BS L i L[i] (L[i].kid k)) (fun k => [.sl (enL cNd L) tk, .int .i64 (i : Int), .int .i64 (k : Int)]) H (rec [.sl (enL cNd L) tk, .int .i64 ((i + 1 : Nat) : Int)] H) (some (.ret (.bool false), H)) (by decide) (fun rec2 k hk => ?_) (fun rec2 => ?_)
     (G := fun rec2 vs H1 => Sh.f3f H rec rec2 (ag vs 0) (ag vs 1) (ag vs 2) H1)
    ·exact this
    ·have hk' : (k : Int) < 4 := by omega
     unfold Sh.f3f
     simp only [AC, CT, Dp, Bq, AO, hk', decide_true, AM, Aw hi, Ai, CB hk, Au, Nat.zero_add, Nat.mul_one, Cy hk, Bd, Av (show k < 9223372036854775807 by omega), BA, D0, CW]
     generalize L[i].kid k = c
     generalize hx' : L[i] = x at h1 h2 ⊢
     by_cases hc : c < 0
     ·have : BS L i x c = false := by simp [BS]; omega
      simp [hc, this, Aw hi, hx']
     ·obtain ⟨n, rfl⟩ := Int.eq_ofNat_of_zero_le (show 0 ≤ c by omega)
      by_cases hl : x.lv = 1
      ·by_cases h255 : 255 < n
       ·have : BS L i x n = false := by simp [BS, hl]; omega
        have h256 : (255 : Int) < n := by omega
        simp [hc, hl, h255, h256, this, Aw hi, hx']
       ·have : BS L i x n = true := by simp [BS, hl]; omega
        have h256 : ¬ (255 : Int) < n := by omega
        simp [hc, hl, h255, h256, this, Aw hi, hx']
      ·have hl1 : 1 < x.lv := by omega
       by_cases hn : 0 < n
       ·by_cases hni : i < n
        ·have : BS L i x n = false := by
          unfold BS
          rw [Bool.and_eq_false_iff]; right
          rw [decide_eq_false_iff_not]; intro h; have := (h hl1 (by omega)).1; omega
         simp [hc, hl, hl1, hn, hni, this, Aw hi, hx']
        ·have hlt : n - 1 < L.length := by omega
         have e1 : ((n : Int) - 1).toNat = n - 1 := by omega
         have hk2 : BS L i x n = decide (L[n - 1].lv = x.lv - 1) := by
          unfold BS
          rw [e1, List.getElem?_eq_getElem hlt, Bool.eq_iff_iff]
          simp only [Bool.and_eq_true, decide_eq_true_eq, Option.some.injEq, forall_eq']
          constructor
          ·intro h; exact (h.2 hl1 (by omega)).2
          ·intro h; exact ⟨⟨by omega, by omega⟩, fun _ _ => ⟨by omega, h⟩⟩
         have hw : IntKind.i64.wrap (x.lv - 1) = x.lv - 1 := A0 (by omega) (by omega)
         simp [hc, hl, hl1, hn, hni, hk2, Dq (show 0 < n by omega) (by omega), Aw hlt, Aw hi, hx', hw]
         by_cases he : L[n - 1].lv = x.lv - 1 <;> simp [he]
       ·have : BS L i x n = true := by
         unfold BS
         simp only [Bool.and_eq_true, decide_eq_true_eq]
         exact ⟨⟨by omega, by omega⟩, fun _ _ => by omega⟩
        simp [hc, hl, hl1, hn, this, Aw hi, hx']
    ·unfold Sh.f3f
     simp [Av (show i < 9223372036854775807 by omega)]
 ·unfold Sh.f3g
  simp
end Go.Gm
namespace Go.Gm
theorem Ax {L : List Nd} (h : Ar L = true) {i : Nat} (hi : i < L.length) : 1 ≤ L[i].lv ∧ L[i].lv ≤ 1329 ∧ ∀ k, k < 4 → 0 ≤ L[i].kid k ∧ (L[i].lv = 1 → L[i].kid k ≤ 255) ∧ (1 < L[i].lv → 0 < L[i].kid k → L[i].kid k ≤ i ∧ ∀ y, L[(L[i].kid k - 1).toNat]? = some y → y.lv = L[i].lv - 1) := by
 have h1 := List.all_eq_true.1 h i (by simpa using hi)
 simp only [D9, List.getElem?_eq_getElem hi, Bool.and_eq_true, decide_eq_true_eq, List.all_eq_true] at h1
 refine ⟨h1.1.1, h1.1.2, fun k hk => ?_⟩
 have h2 := h1.2 k (by simpa using hk)
 simp only [BS, Bool.and_eq_true, decide_eq_true_eq] at h2
 exact ⟨h2.1.1, h2.1.2, h2.2⟩
def K3 (E : List Bool) (x : Nd) : Bool := (List.range 4).all fun k => decide (x.kid k = 0) || (decide (1 < x.lv) && E.getD (x.kid k).toNat true)
def Ap (L : List Nd) : List Bool := L.foldl (fun E x => E ++ [K3 E x]) [true]
theorem F8 (L : List Nd) (x : Nd) : Ap (L ++ [x]) = Ap L ++ [K3 (Ap L) x] := by simp [Ap]
theorem BK (L : List Nd) : (Ap L).length = L.length + 1 := by
 rcases LD L with rfl | ⟨l, a, rfl⟩
 ·rfl
 ·rw [F8]; have := BK l; simp [this]
termination_by L.length
decreasing_by (subst_vars; simp)
theorem RB (L : List Nd) {i : Nat} (hi : i < L.length) : Ap (L.take (i + 1)) = Ap (L.take i) ++ [K3 (Ap (L.take i)) L[i]] := by
 rw [List.take_succ_eq_append_getElem hi, F8]
theorem Gi (L : List Nd) (tk : Tok) (H : Ab) (hL : L.length < 140737488355327) (hl : Ar L = true) : Sh.f5 (.sl (enL cNd L) tk) H = some (.ret (.sl (enL cB (Ap L)) .no), H) := by
 have hmk := F6 (f := cB) (a := false) (n := L.length + 1) (bytes := 1) (H := H) (by omega) (by omega)
 have hid := Ek (sz := 1) (id := H.length) (n := L.length + 1) (K := .i64) (g := 0) (off := 0) (cap := L.length + 1) (ex := true) (i := 0) (by omega)
 have hst := FC (f := cB) (sz := 1) (l := List.replicate (L.length + 1) false) (i := 0) (a := true) (v := .bool true) (H := H ++ [.cel 0 (flat cB (List.replicate (L.length + 1) false))]) (id := H.length) (by simp) (by simp) rfl
 unfold Sh.f5
 simp only [A2, Bq, BA, Av (show L.length < 9223372036854775807 by omega), hmk, BO]
 simp only [Nat.zero_mul, Nat.add_zero] at hid
 rw [show ((0 : Nat) : Int) = 0 from rfl] at hid
 simp only [Nat.zero_mul] at hst
 rw [hid]
 simp only [Bq, hst, DU, D5, Rg, Re]
 have key := BQ (G := fun rec1 vs H1 => Sh.f3i H rec1 (ag vs 0) (ag vs 1) (ag vs 2) H1) L.length (fun i => [.sl (enL cNd L) tk, .ms H.length 0 0 (L.length + 1) (L.length + 1) 1 true, .int .i64 (i : Int)]) (fun i => H ++ [.cel 0 (flat cB (Ap (L.take i) ++ List.replicate (L.length - i) false))]) (some (.ret (.sl (enL cB (Ap L)) .no), H)) (by omega) (fun rec i hi => ?_) (fun rec => ?_)
 ·have e : (List.replicate (L.length + 1) false).set 0 true = Ap (L.take 0) ++ List.replicate (L.length - 0) false := by simp [List.replicate_succ, Ap]
  rw [e]; exact key
 ·have hi' : (i : Int) < (L.length : Int) := by omega
  obtain ⟨l1, l2, l3⟩ := Ax hl hi
  have hEl : (Ap (L.take i)).length = i + 1 := by rw [BK]; simp; omega
  unfold Sh.f3i
  simp only [AC, CT, Dp, A2, Bq, AO, hi', decide_true, AM]
  have hs : ∀ k, k < 4 → 1 < L[i].lv → (Ap (L.take i) ++ List.replicate (L.length - i) false).getD (L[i].kid k).toNat true = (Ap (L.take i)).getD (L[i].kid k).toNat true := by
   intro k hk h1
   obtain ⟨q1, q2, q3⟩ := l3 k hk
   have : (L[i].kid k).toNat < (Ap (L.take i)).length := by
    rw [hEl]
    by_cases h0 : 0 < L[i].kid k
    ·have := (q3 h1 h0).1; omega
    ·omega
   simp only [List.getD_eq_getElem?_getD, List.getElem?_append_left this]
  have hb : ∀ k, k < 4 → 1 < L[i].lv → (L[i].kid k).toNat < L.length + 1 := by
   intro k hk h1
   obtain ⟨q1, q2, q3⟩ := l3 k hk
   by_cases h0 : 0 < L[i].kid k
   ·have := (q3 h1 h0).1; omega
   ·omega
  have hEs : K3 (Ap (L.take i)) L[i] = (List.range 4).all fun k => decide (L[i].kid k = 0) || (decide (1 < L[i].lv) && (Ap (L.take i) ++ List.replicate (L.length - i) false).getD (L[i].kid k).toNat true) := by
   unfold K3
   rw [Fi, Fi]
   by_cases h1 : 1 < L[i].lv
   ·simp only [hs 0 (by omega) h1, hs 1 (by omega) h1, hs 2 (by omega) h1, hs 3 (by omega) h1]
   ·simp only [h1, decide_false, Bool.false_and]
  have hset : (Ap (L.take i) ++ List.replicate (L.length - i) false).set (i + 1) (K3 (Ap (L.take i)) L[i]) = Ap (L.take (i + 1)) ++ List.replicate (L.length - (i + 1)) false := by
   rw [RB L hi, List.set_append_right _ _ (by omega), hEl, Nat.sub_self, show L.length - i = (L.length - (i + 1)) + 1 from by omega, List.replicate_succ, List.set_cons_zero]
   simp
  have hlen : (Ap (L.take i) ++ List.replicate (L.length - i) false).length = L.length + 1 := by simp [hEl]; omega
  rw [← hset, hEs]
  generalize Ap (L.take i) ++ List.replicate (L.length - i) false = E at hlen
  generalize hx : L[i] = x at l1 l2 l3 hb
  have hgc : A5 (H ++ [.cel 0 (flat cB E)]) H.length 0 = some (flat cB E) := by simp
  refine BQ (G := fun rec2 vs H1 => Sh.f3h H rec rec2 (ag vs 0) (ag vs 1) (ag vs 2) (ag vs 3) (ag vs 4) H1) 4 (fun k => [.sl (enL cNd L) tk, .ms H.length 0 0 (L.length + 1) (L.length + 1) 1 true, .int .i64 (i : Int), .bool ((List.range k).all fun k => decide (x.kid k = 0) || (decide (1 < x.lv) && E.getD (x.kid k).toNat true)), .int .i64 (k : Int)]) (fun _ => H ++ [.cel 0 (flat cB E)]) _ (by decide) (fun rec2 k hk => ?_) (fun rec2 => ?_)
  ·have hk' : (k : Int) < 4 := by omega
   obtain ⟨q1, q2, q3⟩ := l3 k hk
   have hb' := hb k hk
   unfold Sh.f3h
   have hsucc : ((List.range (k + 1)).all fun k => decide (x.kid k = 0) || (decide (1 < x.lv) && E.getD (x.kid k).toNat true)) = (((List.range k).all fun k => decide (x.kid k = 0) || (decide (1 < x.lv) && E.getD (x.kid k).toNat true)) && (decide (x.kid k = 0) || (decide (1 < x.lv) && E.getD (x.kid k).toNat true))) := by
    rw [List.range_succ, List.all_append]; simp
   rw [hsucc]
   generalize ((List.range k).all fun k => decide (x.kid k = 0) || (decide (1 < x.lv) && E.getD (x.kid k).toNat true)) = e
   simp only [AC, CT, Dp, FU, G8, Bq, AO, hk', decide_true, AM, Aw hi, hx, Ai, CB hk, Au, Nat.zero_add, Nat.mul_one, Cy hk, Bd, Av (show k < 9223372036854775807 by omega), BA, D0, CW]
   obtain ⟨n, hn⟩ := Int.eq_ofNat_of_zero_le q1
   rw [hn] at hb' ⊢
   simp only [Int.toNat_natCast] at hb' ⊢
   cases e with
   | false => simp
   | true =>
    by_cases h0 : n = 0
    ·subst h0; simp
    ·by_cases h1 : 1 < x.lv
     ·have hnE : n < E.length := by rw [hlen]; exact hb' h1
      have hid2 := Ek (sz := 1) (id := H.length) (n := L.length + 1) (K := .i64) (g := 0) (off := 0) (cap := L.length + 1) (ex := true) (i := n) (hb' h1)
      simp only [Nat.zero_add, Nat.mul_one] at hid2
      have hld := HJ (f := cB) hgc hnE
      simp [h0, h1, hx, Aw hi, hid2, hld, List.getElem?_eq_getElem hnE]
     ·simp [h0, h1, hx, Aw hi]
  ·have hid2 := Ek (sz := 1) (id := H.length) (n := L.length + 1) (K := .i64) (g := 0) (off := 0) (cap := L.length + 1) (ex := true) (i := i + 1) (by omega)
   simp only [Nat.zero_add, Nat.mul_one] at hid2
   have hst2 := FC (f := cB) (sz := 1) (l := E) (i := i + 1) (a := (List.range 4).all fun k => decide (x.kid k = 0) || (decide (1 < x.lv) && E.getD (x.kid k).toNat true)) (H := H ++ [.cel 0 (flat cB E)]) (id := H.length) hgc (by omega) (v := .bool ((List.range 4).all fun k => decide (x.kid k = 0) || (decide (1 < x.lv) && E.getD (x.kid k).toNat true))) rfl
   simp only [Nat.mul_one] at hst2
   unfold Sh.f3h
   have hf : ¬ (((4 : Nat) : Int) < 4) := by decide
   simp only [AC, CT, Dp, FU, G8, Bq, AO, hf, decide_false, AK, BA, Av (show i < 9223372036854775807 by omega), hid2, hst2, DU, D5, Rg, Re]
 ·unfold Sh.f3i
  have hgc : A5 (H ++ [.cel 0 (flat cB (Ap L))]) H.length 0 = some (flat cB (Ap L)) := by simp
  have hfa := fall_ms (f := cB) (b := H.length) (d := 5) (cap := L.length + 1) (ex := true) hgc (Nat.le_refl _)
  rw [BK] at hfa
  have ht : L.take L.length = L := List.take_of_length_le (Nat.le_refl _)
  simp only [AC, CT, Dp, A2, Bq, AO, Int.lt_irrefl, decide_false, AK, ht, Nat.sub_self, List.replicate_zero, List.append_nil, DG, hfa, Option.map_some]
theorem Rm (L : List Nd) (tk : Tok) (n : Nat) (H : Ab) (hL : L.length < 140737488355327) (hl : Ar L = true) (hn : n ≤ L.length) : Sh.f2c (.sl (enL cNd L) tk) (.int .i64 (n : Int)) H = some (.ret (.bool ((Ap L).getD n true)), H) := by
 have hlt : n < (Ap L).length := by rw [BK]; omega
 unfold Sh.f2c
 simp [Gi L tk H hL hl, Aw hlt, List.getD_eq_getElem?_getD, List.getElem?_eq_getElem hlt]
end Go.Gm
namespace Go.Gm
def Ak (L : List Nd) (c : Int) : Nd := L.getD (c - 1).toNat ⟨0, 0, 0, 0, 0⟩
def M2 (L : List Nd) (E : List Bool) (x : Nd) (k j : Nat) : Bool :=
 decide (j = 3 - k) || (if x.lv = 2 then decide ((Ak L (x.kid k)).kid j = 0) else E.getD ((Ak L (x.kid k)).kid j).toNat true)
def hol (L : List Nd) (E : List Bool) (x : Nd) : Bool :=
 (List.range 4).all fun k => decide (x.kid k = 0) || (List.range 4).all (M2 L E x k)
def Ck (L : List Nd) (n : Nat) : Bool :=
 decide (n ≠ 0) && decide (2 ≤ (Ak L n).lv) && hol L (Ap L) (Ak L n)
theorem BP {L : List Nd} {c : Int} {n : Nat} (hc : c = ((n + 1 : Nat) : Int)) (h : n < L.length) : Ak L c = L[n] := by
 have : (c - 1).toNat = n := by omega
 unfold Ak; rw [this, List.getD_eq_getElem?_getD, List.getElem?_eq_getElem h]; rfl
theorem Pv (L : List Nd) (tk : Tok) (n : Nat) (H : Ab) (hL : L.length < 140737488355327) (hl : Ar L = true) (hn : n ≤ L.length) : Sh.fs (.sl (enL cNd L) tk) (.int .i64 (n : Int)) H = some (.ret (.bool (Ck L n)), H) := by
 unfold Sh.fs Ck
 cases n with
 | zero => simp
 | succ n =>
  have hi : n < L.length := hn
  have e0 : ¬ ((n + 1 : Nat) : Int) = 0 := by omega
  obtain ⟨l1, l2, l3⟩ := Ax hl hi
  rw [BP rfl hi]
  generalize hx : L[n] = x at l1 l2 l3
  have hw : IntKind.i64.wrap (((n + 1 : Nat) : Int) - 1) = (n : Int) := by rw [A0] <;> omega
  simp only [D0, Ev, e0, decide_false, Bq, Oi, Eu, hw, Aw hi, hx, Ai, Au, Nat.add_zero, Bd, AO, BZ]
  by_cases h2 : x.lv < 2
  ·have : ¬ 2 ≤ x.lv := by omega
   simp [h2, this]
  ·have h2' : 2 ≤ x.lv := by omega
   simp only [h2, h2', decide_false, AK, Gi L tk H hL hl, Fo, decide_true, ne_eq, Nat.succ_ne_zero, not_false_eq_true, Bool.true_and]
   have key := DB (G := fun rec1 vs H1 => Sh.f3j H rec1 (ag vs 0) (ag vs 1) (ag vs 2) (ag vs 3) H1) 4 (fun k => decide (x.kid k = 0) || (List.range 4).all (M2 L (Ap L) x k))
    (fun k => [.sl (enL cNd L) tk, .int .i64 ((n + 1 : Nat) : Int), .sl (enL cB (Ap L)) .no, .int .i64 (k : Int)]) H (some (.ret (.bool true), H)) (some (.ret (.bool false), H)) (by decide) (fun rec k hk => ?_) (fun rec => ?_)
   ·refine key.trans ?_
    rw [show hol L (Ap L) x = (List.range 4).all fun k => decide (x.kid k = 0) || (List.range 4).all (M2 L (Ap L) x k) from rfl]
    cases (List.range 4).all fun k => decide (x.kid k = 0) || (List.range 4).all (M2 L (Ap L) x k) <;> rfl
   ·have hk' : (k : Int) < 4 := by omega
    obtain ⟨q1, q2, q3⟩ := l3 k hk
    unfold Sh.f3j
    simp only [AC, CT, Dp, FU, Bq, AO, hk', decide_true, AM, Eu, hw, Aw hi, hx, Ai, CB hk, Au, Nat.zero_add, Nat.mul_one, Cy hk]
    have hws : IntKind.i64.wrap ((k : Int) + 1) = ((k + 1 : Nat) : Int) := Av (by omega)
    by_cases hc : x.kid k = 0
    ·rw [Rr fuel_pos]
     unfold Sh.f2m
     simp only [hc, decide_true, Bool.true_or, if_true, AC, CT, Dp, FU, G8, Lw, AO, Bq, show ((0 : Int) < 4) from by decide, Iw, CW, show ¬ ((0 : Int) > 0) from by decide, decide_false, BR, AK, BA, hws]
    ·obtain ⟨m, hm⟩ : ∃ m : Nat, x.kid k = ((m + 1 : Nat) : Int) := ⟨(x.kid k - 1).toNat, by omega⟩
     have h1 : 1 < x.lv := by omega
     obtain ⟨r1, r2⟩ := q3 h1 (by omega)
     have hmn : m < n := by omega
     have hml : m < L.length := by omega
     have hy := r2 L[m] (by rw [show (x.kid k - 1).toNat = m from by omega]; exact List.getElem?_eq_getElem hml)
     obtain ⟨y1, y2, y3⟩ := Ax hl hml
     have hE : ∀ j, j < 4 → 2 < x.lv → (L[m].kid j).toNat < (Ap L).length := by
      intro j hj h3
      obtain ⟨s1, s2, s3⟩ := y3 j hj
      rw [BK]
      by_cases h0 : 0 < L[m].kid j
      ·have := (s3 (by omega) h0).1; omega
      ·omega
     have hp : M2 L (Ap L) x k = fun j => decide (j = 3 - k) || (if x.lv = 2 then decide (L[m].kid j = 0) else (Ap L).getD (L[m].kid j).toNat true) := by
      funext j; unfold M2; rw [BP hm hml]
     have hwm : IntKind.i64.wrap (((m + 1 : Nat) : Int) - 1) = (m : Int) := by rw [A0] <;> omega
     have hc' : ¬ ((m + 1 : Nat) : Int) = 0 := by omega
     simp only [hp, hm, hc', decide_false, Bool.false_or]
     generalize hyy : L[m] = y at y1 y2 y3 hy hE
     refine DB (G := fun rec2 vs H1 => Sh.f2m H rec rec2 (ag vs 0) (ag vs 1) (ag vs 2) (ag vs 3) (ag vs 4) (ag vs 5) H1) 4 _
      (fun j => [.sl (enL cNd L) tk, .int .i64 ((n + 1 : Nat) : Int), .sl (enL cB (Ap L)) .no, .int .i64 (k : Int), .int .i64 ((m + 1 : Nat) : Int), .int .i64 (j : Int)]) H _ _ (by decide) (fun rec2 j hj => ?_) (fun rec2 => ?_)
     ·have hj' : (j : Int) < 4 := by omega
      have hm0 : ((m + 1 : Nat) : Int) > 0 := by omega
      have hw3 : IntKind.i64.wrap (3 - (k : Int)) = 3 - (k : Int) := A0 (by omega) (by omega)
      have hjs : IntKind.i64.wrap ((j : Int) + 1) = ((j + 1 : Nat) : Int) := Av (by omega)
      obtain ⟨s1, s2, s3⟩ := y3 j hj
      have hE' := hE j hj
      unfold Sh.f2m
      simp only [AC, CT, Dp, FU, G8, Lw, AO, Bq, hj', decide_true, Iw, CW, hm0, BR, AM, Eu, hw, hwm, hw3, Aw hml, hyy, Aw hi, hx, Ai, CB hj, Au, Nat.zero_add, Nat.add_zero, Nat.mul_one, Cy hj, Bd, Im, Ik, D0, Ev, BA, hjs]
      obtain ⟨g, hg⟩ := Int.eq_ofNat_of_zero_le s1
      rw [hg] at hE' ⊢
      simp only [Int.toNat_natCast] at hE' ⊢
      by_cases h3k : j = 3 - k
      ·have h3 : (j : Int) = 3 - (k : Int) := by omega
       simp only [Bq, AC, CT, Dp, FU, G8, Lw, AO, CW, Ld, Le, D0, Im, Ev, Ik, BA, Eu, Gx, AM, AK, BR, BZ, Iw, Oi, Qc, Oh, gk_s, Nq, Nt, Nr, Ns, R1, NM, GX, N3, N6, N4, N5, R4, Nu, Nx, Nv, Nw, R2, Ny, N2, Nz, N1, R3, F9, AN, decide_true, decide_false, Bool.not_true, Bool.not_false, Fo, D5, NV, JM, Jo, if_true, Bool.false_eq_true, if_false, F5, DU, C7, BO, Bool.false_or, Bool.true_or, Bool.or_false, Bool.or_true, decide_eq_true h3, decide_eq_true h3k, Bool.true_or]
      ·have h3 : ¬ (j : Int) = 3 - (k : Int) := by omega
       simp only [h3k, h3, GMb, GMc, Ai, Ah, Au, Nat.zero_add, Nat.add_zero, Nat.mul_one, Bd, Bool.false_or]
       by_cases hx2 : x.lv = 2
       ·have hx3 : ¬ (2 : Int) > 2 := by decide
        by_cases hg0 : (g : Int) = 0
        ·simp only [Bq, AC, CT, Dp, FU, G8, Lw, AO, CW, Ld, Le, D0, Im, Ev, Ik, BA, Eu, Gx, AM, AK, BR, BZ, Iw, Oi, Qc, Oh, gk_s, Nq, Nt, Nr, Ns, R1, NM, GX, N3, N6, N4, N5, R4, Nu, Nx, Nv, Nw, R2, Ny, N2, Nz, N1, R3, F9, AN, decide_true, decide_false, Bool.not_true, Bool.not_false, Fo, D5, NV, JM, Jo, if_true, Bool.false_eq_true, if_false, F5, DU, C7, BO, Bool.false_or, Bool.true_or, Bool.or_false, Bool.or_true, Ai, Ah, Au, Nat.zero_add, Nat.add_zero, Nat.mul_one, Bd, hw, Aw hi, hx, hx2, hg0, hx3]
        ·simp only [Bq, AC, CT, Dp, FU, G8, Lw, AO, CW, Ld, Le, D0, Im, Ev, Ik, BA, Eu, Gx, AM, AK, BR, BZ, Iw, Oi, Qc, Oh, gk_s, Nq, Nt, Nr, Ns, R1, NM, GX, N3, N6, N4, N5, R4, Nu, Nx, Nv, Nw, R2, Ny, N2, Nz, N1, R3, F9, AN, decide_true, decide_false, Bool.not_true, Bool.not_false, Fo, D5, NV, JM, Jo, if_true, Bool.false_eq_true, if_false, F5, DU, C7, BO, Bool.false_or, Bool.true_or, Bool.or_false, Bool.or_true, Ai, Ah, Au, Nat.zero_add, Nat.add_zero, Nat.mul_one, Bd, hw, Aw hi, hx, hx2, hg0, hx3]
       ·have hx3 : x.lv > 2 := by omega
        have hlt := hE' hx3
        have hgd : (Ap L).getD g true = (Ap L)[g] := by rw [List.getD_eq_getElem?_getD, List.getElem?_eq_getElem hlt]; rfl
        simp only [Bq, AC, CT, Dp, FU, G8, Lw, AO, CW, Ld, Le, D0, Im, Ev, Ik, BA, Eu, Gx, AM, AK, BR, BZ, Iw, Oi, Qc, Oh, gk_s, Nq, Nt, Nr, Ns, R1, NM, GX, N3, N6, N4, N5, R4, Nu, Nx, Nv, Nw, R2, Ny, N2, Nz, N1, R3, F9, AN, decide_true, decide_false, Bool.not_true, Bool.not_false, Fo, D5, NV, JM, Jo, if_true, Bool.false_eq_true, if_false, F5, DU, C7, BO, Bool.false_or, Bool.true_or, Bool.or_false, Bool.or_true, Ai, Ah, Au, Nat.zero_add, Nat.add_zero, Nat.mul_one, Bd, hw, Aw hi, hx, hx2, hx3, Aw hlt, hgd, List.getElem?_cons_zero]
        cases (Ap L)[g] <;> simp only [Bq, AC, CT, Dp, FU, G8, Lw, AO, CW, Ld, Le, D0, Im, Ev, Ik, BA, Eu, Gx, AM, AK, BR, BZ, Iw, Oi, Qc, Oh, gk_s, Nq, Nt, Nr, Ns, R1, NM, GX, N3, N6, N4, N5, R4, Nu, Nx, Nv, Nw, R2, Ny, N2, Nz, N1, R3, F9, AN, decide_true, decide_false, Bool.not_true, Bool.not_false, Fo, D5, NV, JM, Jo, if_true, Bool.false_eq_true, if_false, F5, DU, C7, BO, Bool.false_or, Bool.true_or, Bool.or_false, Bool.or_true]
     ·have hf : ¬ (((4 : Nat) : Int) < 4) := by decide
      unfold Sh.f2m
      simp only [AC, CT, Dp, FU, G8, Lw, AO, Bq, hf, decide_false, Oh, Qc, BZ, AK, BA, hws]
   ·have hf : ¬ (((4 : Nat) : Int) < 4) := by decide
    unfold Sh.f3j
    simp only [AC, CT, Dp, FU, AO, Bq, hf, decide_false, AK, NV]
theorem q05_inner (L : List Nd) (tk : Tok) (n k : Nat) (H : Ab) (hL : L.length < 140737488355327) (hl : Ar L = true) (hn : n < L.length) (h2 : 2 ≤ L[n].lv) (hk : k < 4) :
  Sh.f2d (.sl (enL cNd L) tk) (.int .i64 ((n + 1 : Nat) : Int)) (.int .i64 (k : Int)) H = some (.ret (.int .i64 (if L[n].kid k = 0 then 0 else (Ak L (L[n].kid k)).kid (3 - k))), H) := by
 obtain ⟨l1, l2, l3⟩ := Ax hl hn
 obtain ⟨q1, q2, q3⟩ := l3 k hk
 have hw : IntKind.i64.wrap (((n + 1 : Nat) : Int) - 1) = (n : Int) := by rw [A0] <;> omega
 unfold Sh.f2d
 simp only [Eu, Bq, hw, Aw hn, Ai, CB hk, Au, Nat.zero_add, Nat.mul_one, Cy hk, D0, Ev]
 by_cases hc : L[n].kid k = 0
 ·simp [hc]
 ·obtain ⟨m, hm⟩ : ∃ m : Nat, L[n].kid k = ((m + 1 : Nat) : Int) := ⟨(L[n].kid k - 1).toNat, by omega⟩
  obtain ⟨r1, r2⟩ := q3 (by omega) (by omega)
  have hml : m < L.length := by omega
  have hwm : IntKind.i64.wrap (((m + 1 : Nat) : Int) - 1) = (m : Int) := by rw [A0] <;> omega
  have hw3 : IntKind.i64.wrap (3 - (k : Int)) = ((3 - k : Nat) : Int) := by rw [A0] <;> omega
  simp only [hc, decide_false, AK, if_false, BP hm hml]
  rw [hm]
  simp only [hwm, hw3, Bq, Aw hml, Ai, Nat.zero_add, CB (show 3 - k < 4 by omega), Au, Nat.mul_one, Cy (show 3 - k < 4 by omega), NV]
end Go.Gm
namespace Go.Gm
def K2 (rec : Nat → List Nat → List Nat) (x : Nd) (k : Nat) (out : List Nat) : List Nat :=
 (List.range k).foldl (fun o k => if 1 < x.lv ∧ 0 < x.kid k then rec (x.kid k).toNat o else o) out
def DP (L : List Nd) : Nat → Nat → List Nat → List Nat
 | 0, _, out => out
 | v + 1, n, out => if n ∈ out then out else K2 (DP L v) (Ak L n) 4 out ++ [n]
def L6 (N : Nat) (out : List Nat) : Prop := out.Nodup ∧ ∀ x ∈ out, 1 ≤ x ∧ x ≤ N
theorem KK : ∀ (N : Nat) (out : List Nat), L6 N out → out.length ≤ N
 | 0, out, h => by
  cases out with
  | nil => simp
  | cons a l => have := h.2 a (by simp); omega
 | N + 1, out, h => by
  have h1 : L6 N (out.erase (N + 1)) := ⟨h.1.erase _, fun x hx => by
   have := (h.1.mem_erase_iff).1 hx
   have := h.2 x this.2
   omega⟩
  have := KK N _ h1
  rw [List.length_erase] at this
  split at this <;> omega
theorem NB (rec : Nat → List Nat → List Nat) (x : Nd) (k : Nat) (out : List Nat) : K2 rec x (k + 1) out = if 1 < x.lv ∧ 0 < x.kid k then rec (x.kid k).toNat (K2 rec x k out) else K2 rec x k out := by
 simp [K2, List.range_succ]
theorem K1 {rec : Nat → List Nat → List Nat} {x : Nd} {out : List Nat} (P : List Nat → Prop) (h0 : P out) (hs : ∀ k o, k < 4 → 1 < x.lv → 0 < x.kid k → P o → P (rec (x.kid k).toNat o)) : ∀ k, k ≤ 4 → P (K2 rec x k out)
 | 0, _ => h0
 | k + 1, h => by
  rw [NB]
  split
  ·rename_i hc; exact hs k _ (by omega) hc.1 hc.2 (K1 P h0 hs k (by omega))
  ·exact K1 P h0 hs k (by omega)
theorem A6 {L : List Nd} {n : Nat} (h : n < L.length) : Ak L ((n + 1 : Nat) : Int) = L[n] := BP rfl h
theorem OR {L : List Nd} (hl : Ar L = true) : ∀ (v n : Nat) (out : List Nat), 1 ≤ n → n ≤ L.length → L6 L.length out → L6 L.length (DP L v n out) ∧ (∀ x ∈ out, x ∈ DP L v n out) ∧ ∀ x ∈ DP L v n out, x ∈ out ∨ x ≤ n
 | 0, n, out, h1, h2, ho => ⟨ho, fun x hx => hx, fun x hx => .inl hx⟩
 | v + 1, n, out, h1, h2, ho => by
  obtain ⟨m, rfl⟩ : ∃ m, n = m + 1 := ⟨n - 1, by omega⟩
  have hm : m < L.length := by omega
  obtain ⟨l1, l2, l3⟩ := Ax hl hm
  simp only [DP]
  split
  ·exact ⟨ho, fun x hx => hx, fun x hx => .inl hx⟩
  ·rename_i hn
   rw [A6 hm]
   have key := K1 (rec := DP L v) (x := L[m]) (out := out) (fun o => L6 L.length o ∧ (∀ x ∈ out, x ∈ o) ∧ ∀ x ∈ o, x ∈ out ∨ x ≤ m) ⟨ho, fun x hx => hx, fun x hx => .inl hx⟩ (fun k o hk hlv hkid hP => by
    obtain ⟨q1, q2, q3⟩ := l3 k hk
    have := (q3 hlv hkid).1
    obtain ⟨r1, r2, r3⟩ := OR hl v (L[m].kid k).toNat o (by omega) (by omega) hP.1
    exact ⟨r1, fun x hx => r2 x (hP.2.1 x hx), fun x hx => by
     rcases r3 x hx with h | h
     ·exact hP.2.2 x h
     ·right; omega⟩) 4 (by omega)
   obtain ⟨⟨k1, k2⟩, k3, k4⟩ := key
   generalize K2 (DP L v) L[m] 4 out = o at k1 k2 k3 k4
   have hno : m + 1 ∉ o := fun h => by
    rcases k4 _ h with h | h
    ·exact hn h
    ·omega
   refine ⟨⟨?_, ?_⟩, ?_, ?_⟩
   ·rw [List.nodup_append]
    exact ⟨k1, by simp, fun a ha b hb e => by simp at hb; subst hb; subst e; exact hno ha⟩
   ·intro x hx
    simp only [List.mem_append, List.mem_singleton] at hx
    rcases hx with hx | rfl
    ·exact k2 x hx
    ·omega
   ·intro x hx; simp [k3 x hx]
   ·intro x hx
    simp only [List.mem_append, List.mem_singleton] at hx
    rcases hx with hx | rfl
    ·rcases k4 x hx with h | h
     ·exact .inl h
     ·exact .inr (by omega)
    ·exact .inr (Nat.le_refl _)
theorem append_outN {B : Ab} {l : List Nat} {n : Nat} (h : l.length < 17592186044415) : AG D3 1 8 (Fj cN B l) (.sl (enL cN [n]) .tight) (Ef cN D3 1 B l) = some (Fj cN B (l ++ [n]), Ef cN D3 1 B (l ++ [n])) :=
 In (by simp) (by simp; omega) (by simp; omega)
theorem q05_end {L : List Nd} (tk : Tok) (B : Ab) (hL : L.length < 17592186044415) (hl : Ar L = true) : ∀ (v n d : Nat) (out : List Nat), 1 ≤ n → n ≤ L.length → (Ak L n).lv = v → v ≤ d → L6 L.length out →
  Sh.f7 d (.sl (enL cNd L) tk) (.int .i64 (n : Int)) (Fj cN B out) (Ef cN D3 1 B out) = some (.ret (Fj cN B (DP L v n out)), Ef cN D3 1 B (DP L v n out)) := by
 intro v
 induction v with
 | zero =>
  intro n d out h1 h2 hv hd ho
  exfalso
  obtain ⟨m, rfl⟩ : ∃ m, n = m + 1 := ⟨n - 1, by omega⟩
  rw [A6 (by omega)] at hv
  have := (Ax hl (show m < L.length by omega)).1
  omega
 | succ v ih =>
  intro n d out h1 h2 hv hd ho
  obtain ⟨d, rfl⟩ : ∃ e, d = e + 1 := ⟨d - 1, by omega⟩
  obtain ⟨m, rfl⟩ : ∃ m, n = m + 1 := ⟨n - 1, by omega⟩
  have hm : m < L.length := by omega
  obtain ⟨l1, l2, l3⟩ := Ax hl hm
  have hln := KK _ _ ho
  rw [A6 hm] at hv
  show Sh.f4i (Sh.f7 d) _ _ _ _ = _
  unfold Sh.f4i
  have key := HH (G := fun rec1 vs H1 => Sh.f3l (Ef cN D3 1 B out) (Sh.f7 d) rec1 (ag vs 0) (ag vs 1) (ag vs 2) (ag vs 3) H1) out.length (fun i => decide (out.getD i 0 = m + 1))
   (fun i => [.sl (enL cNd L) tk, .int .i64 ((m + 1 : Nat) : Int), Fj cN B out, .int .i64 (i : Int)]) (Ef cN D3 1 B out) (some (.ret (Fj cN B (K2 (DP L v) L[m] 4 out ++ [m + 1])), Ef cN D3 1 B (K2 (DP L v) L[m] 4 out ++ [m + 1]))) (fun _ => some (.ret (Fj cN B out), Ef cN D3 1 B out)) (by omega) (fun rec i hi => ?_) (fun rec => ?_)
  ·refine key.trans ?_
   by_cases hmem : m + 1 ∈ out
   ·obtain ⟨i, hi, hx⟩ := List.getElem_of_mem hmem
    have hf : ∃ j, (List.range out.length).find? (fun i => decide (out.getD i 0 = m + 1)) = some j := by
     cases hq : (List.range out.length).find? (fun i => decide (out.getD i 0 = m + 1)) with
     | some j => exact ⟨j, rfl⟩
     | none =>
      have := List.find?_eq_none.1 hq i (by simpa using hi)
      simp [List.getD_eq_getElem?_getD, List.getElem?_eq_getElem hi, hx] at this
    obtain ⟨j, hj⟩ := hf
    rw [hj]; simp only [DP, if_pos hmem]
   ·have hf : (List.range out.length).find? (fun i => decide (out.getD i 0 = m + 1)) = none := by
     rw [List.find?_eq_none]
     intro i hi
     have hi' : i < out.length := by simpa using hi
     rw [List.getD_eq_getElem?_getD, List.getElem?_eq_getElem hi']
     simp only [Option.getD_some, decide_eq_true_eq]
     intro e; exact hmem (e ▸ List.getElem_mem hi')
    rw [hf]; simp only [DP, if_neg hmem, A6 hm]
  ·have hi' : (i : Int) < (out.length : Int) := by omega
   have hd2 : decide ((out[i] : Int) = ((m + 1 : Nat) : Int)) = decide (out.getD i 0 = m + 1) := by
    rw [List.getD_eq_getElem?_getD, List.getElem?_eq_getElem hi, Bool.eq_iff_iff]; simp; omega
   unfold Sh.f3l
   simp only [GMb, GMc, Ai, Ah, Au, Nat.zero_add, Nat.add_zero, Nat.mul_one, Bd, Hz, A2, hi', Aw hi, List.getElem?_cons_zero, Av (show i < 9223372036854775807 by omega), hd2]
   cases decide (out.getD i 0 = m + 1) <;> simp only [GMb, GMc]
  ·unfold Sh.f3l
   rw [Hz]
   simp only [GMb, GMc, A2, Int.lt_irrefl]
   rw [← Hz]
   refine BQ (G := fun rec2 vs H1 => Sh.f3k (Ef cN D3 1 B out) (Sh.f7 d) rec2 (ag vs 0) (ag vs 1) (ag vs 2) (ag vs 3) H1) 4 (fun k => [.sl (enL cNd L) tk, .int .i64 ((m + 1 : Nat) : Int), Fj cN B (K2 (DP L v) L[m] k out), .int .i64 (k : Int)]) (fun k => Ef cN D3 1 B (K2 (DP L v) L[m] k out)) _ (by decide) (fun rec2 k hk => ?_) (fun rec2 => ?_)
   ·have hk' : (k : Int) < 4 := by omega
    have hws : IntKind.i64.wrap ((k : Int) + 1) = ((k + 1 : Nat) : Int) := Av (by omega)
    have hwm : IntKind.i64.wrap (((m + 1 : Nat) : Int) - 1) = (m : Int) := by rw [A0] <;> omega
    obtain ⟨q1, q2, q3⟩ := l3 k hk
    have ho' : L6 L.length (K2 (DP L v) L[m] k out) := K1 (fun o => L6 L.length o) ho (fun k o hk hlv hkid hP => by
     obtain ⟨q1, q2, q3⟩ := l3 k hk
     have := (q3 hlv hkid).1
     exact (OR hl v (L[m].kid k).toNat o (by omega) (by omega) hP).1) k (by omega)
    unfold Sh.f3k
    rw [NB]
    generalize K2 (DP L v) L[m] k out = o at ho'
    simp only [GMb, GMc, Ai, Ah, Au, Nat.zero_add, Nat.add_zero, Nat.mul_one, Bd, hk', hwm, Aw hm, Sh.f2n, hws]
    by_cases hlv : 1 < L[m].lv
    ·by_cases hkid : 0 < L[m].kid k
     ·obtain ⟨r1, r2⟩ := q3 hlv hkid
      obtain ⟨c, hc⟩ : ∃ c : Nat, L[m].kid k = ((c + 1 : Nat) : Int) := ⟨(L[m].kid k - 1).toNat, by omega⟩
      have hcl : c < L.length := by omega
      have hy := r2 L[c] (by rw [show (L[m].kid k - 1).toNat = c from by omega]; exact List.getElem?_eq_getElem hcl)
      have hi2 := ih (c + 1) d o (by omega) (by omega) (by rw [A6 hcl]; omega) (by omega) ho'
      have hc0 : ((c + 1 : Nat) : Int) > 0 := by omega
      rw [if_pos ⟨hlv, hkid⟩]
      simp only [GMb, GMc, Ai, Ah, Au, Nat.zero_add, Nat.add_zero, Nat.mul_one, Bd, hlv, hwm, Aw hm, Ai, CB hk, Cy hk, hc, hc0, hi2, gt_iff_lt, Int.toNat_natCast, Sh.f2n, hws]
     ·rw [if_neg (fun h => hkid h.2)]
      simp only [GMb, GMc, Ai, Ah, Au, Nat.zero_add, Nat.add_zero, Nat.mul_one, Bd, hlv, hwm, Aw hm, Ai, CB hk, Cy hk, hkid, gt_iff_lt, Sh.f2n, hws]
    ·rw [if_neg (fun h => hlv h.1)]
     simp only [GMb, GMc, Ai, Ah, Au, Nat.zero_add, Nat.add_zero, Nat.mul_one, Bd, hlv, gt_iff_lt, Sh.f2n, hws]
   ·have hf : ¬ (((4 : Nat) : Int) < 4) := by decide
    have ho' : L6 L.length (K2 (DP L v) L[m] 4 out) := K1 (fun o => L6 L.length o) ho (fun k o hk hlv hkid hP => by
     obtain ⟨q1, q2, q3⟩ := l3 k hk
     have := (q3 hlv hkid).1
     exact (OR hl v (L[m].kid k).toNat o (by omega) (by omega) hP).1) 4 (by omega)
    have hle := KK _ _ ho'
    unfold Sh.f3k
    simp only [GMb, GMc, hf, build_N, append_outN (show (K2 (DP L v) L[m] 4 out).length < 17592186044415 by omega)]
end Go.Gm
namespace Go.Gm
def De (L : List Nd) : List Aa := [.sl (enL cNd L) .no]
def Lm (L : List Nd) : Aa := .agg (De L)
def D6 (L : List Nd) : Int := (Ak L (L.length : Int)).lv
def LH (L : List Nd) : List Nat := DP L (D6 L).toNat L.length []
def dupB (L : List Nd) : Bool := (List.range L.length).all fun i => !((Ap L).getD (i + 1) true) && (List.range i).all fun k => decide (L.getD i ⟨0, 0, 0, 0, 0⟩ ≠ L.getD k ⟨0, 0, 0, 0, 0⟩)
def Na (L : List Nd) : Bool := (List.range (LH L).length).all (fun i => decide ((LH L).getD i 0 = i + 1)) && decide ((LH L).length = L.length)
def CU (L : List Nd) : Bool :=
 decide (L = []) || (Ar L && !(Ck L L.length) && dupB L && Na L)
theorem boxQuad (L : List Nd) (tk : Tok) (H : Ab) : Et true 1 (.agg [.sl (enL cNd L) tk]) H = some (.ptr H.length 0 0, H ++ [.cel 0 [.sl (enL cNd L) tk]]) := Gw rfl rfl
theorem q05_right (L : List Nd) (tk : Tok) (H : Ab) (hL : L.length < 17592186044415) : Sh.f24 (.agg [.sl (enL cNd L) tk]) H = some (.ret (.bool (CU L)), H) := by
 unfold Sh.f24
 simp only [GMb, GMc, Ai, Ah, Au, Nat.zero_add, Nat.add_zero, Nat.mul_one, Bd, boxQuad, GP, Nh, List.getElem?_cons_zero, A2]
 by_cases h0 : L = []
 ·subst h0; simp [CU]
 ·have hlen : L.length ≠ 0 := fun h => h0 (List.eq_nil_of_length_eq_zero h)
  have h0' : ¬ ((L.length : Int) = 0) := by omega
  have hq : CU L = (Ar L && !(Ck L L.length) && dupB L && Na L) := by simp [CU, h0]
  simp only [GMb, GMc, h0', Rl L tk _ (show L.length < 1152921504606846976 by omega)]
  cases hl : Ar L with
  | false => simp [hq, hl]
  | true =>
   simp only [GMb, GMc, A2, Pv L tk L.length _ (show L.length < 140737488355327 by omega) hl (Nat.le_refl _)]
   cases hh : Ck L L.length with
   | true => simp [hq, hh]
   | false =>
    simp only [GMb, GMc, Gi L tk _ (show L.length < 140737488355327 by omega) hl]
    rw [hq, hl, hh]
    simp only [GMb, GMc]
    generalize hB : H ++ [.cel 0 [.sl (enL cNd L) tk]] = B
    have hfin : ∀ (v : Bool) (G : Ab), rP H (.bool v) (B ++ G) = some (.ret (.bool v), H) := fun v G => by rw [← hB, List.append_assoc]; exact Mj
    have hfin0 : ∀ (v : Bool), rP H (.bool v) B = some (.ret (.bool v), H) := fun v => by rw [← hB]; exact Mj
    have key := DB (G := fun rec1 vs H1 => Sh.f3o H rec1 (ag vs 0) (ag vs 1) (ag vs 2) H1) L.length (fun i => !((Ap L).getD (i + 1) true) && (List.range i).all fun k => decide (L.getD i ⟨0, 0, 0, 0, 0⟩ ≠ L.getD k ⟨0, 0, 0, 0, 0⟩))
     (fun i => [.sl (enL cNd L) tk, .sl (enL cB (Ap L)) .no, .int .i64 (i : Int)]) B (some (.ret (.bool (Na L)), H)) (some (.ret (.bool false), H)) (by omega) (fun rec i hi => ?_) (fun rec => ?_)
    ·refine key.trans ?_
     rw [show dupB L = (List.range L.length).all fun i => !((Ap L).getD (i + 1) true) && (List.range i).all fun k => decide (L.getD i ⟨0, 0, 0, 0, 0⟩ ≠ L.getD k ⟨0, 0, 0, 0, 0⟩) from rfl]
     cases (List.range L.length).all fun i => !((Ap L).getD (i + 1) true) && (List.range i).all fun k => decide (L.getD i ⟨0, 0, 0, 0, 0⟩ ≠ L.getD k ⟨0, 0, 0, 0, 0⟩) <;> simp only [GMb, GMc]
    ·have hi' : (i : Int) < (L.length : Int) := by omega
     have hlt : i + 1 < (Ap L).length := by rw [BK]; omega
     have hws : IntKind.i64.wrap ((i : Int) + 1) = ((i + 1 : Nat) : Int) := Av (by omega)
     have hgd : (Ap L).getD (i + 1) true = (Ap L)[i + 1] := by rw [List.getD_eq_getElem?_getD, List.getElem?_eq_getElem hlt]; rfl
     unfold Sh.f3o
     simp only [GMb, GMc, Ai, Ah, Au, Nat.zero_add, Nat.add_zero, Nat.mul_one, Bd, A2, hi', hws, Aw hlt, List.getElem?_cons_zero, hgd]
     cases (Ap L)[i + 1] with
     | true => simp only [GMb, GMc, hfin0]
     | false =>
      simp only [GMb, GMc]
      refine DB (G := fun rec2 vs H1 => Sh.f3m H rec rec2 (ag vs 0) (ag vs 1) (ag vs 2) (ag vs 3) H1) i (fun k => decide (L.getD i ⟨0, 0, 0, 0, 0⟩ ≠ L.getD k ⟨0, 0, 0, 0, 0⟩))
       (fun k => [.sl (enL cNd L) tk, .sl (enL cB (Ap L)) .no, .int .i64 (i : Int), .int .i64 (k : Int)]) B _ _ (by omega) (fun rec2 k hk => ?_) (fun rec2 => ?_)
      ·have hk' : (k : Int) < (i : Int) := by omega
       have hkl : k < L.length := by omega
       unfold Sh.f3m
       simp only [GMb, GMc, hk', Aw hi, Aw hkl, Fw, eq_nd, hfin0, Av (show k < 9223372036854775807 by omega)]
       simp only [List.getD_eq_getElem?_getD, List.getElem?_eq_getElem hi, List.getElem?_eq_getElem hkl, Option.getD_some]
       by_cases he : L[i] = L[k]
       ·simp only [he, ne_eq, not_true_eq_false, GMb, GMc]
       ·simp only [he, ne_eq, not_false_eq_true, GMb, GMc]
      ·unfold Sh.f3m
       simp only [GMb, GMc, Int.lt_irrefl, hws]
    ·unfold Sh.f3o
     have hm : L.length - 1 < L.length := by omega
     have hlm : L.length = L.length - 1 + 1 := by omega
     have hlv : (Ak L (L.length : Int)).lv = ((D6 L).toNat : Int) := by
      have := (Ax hl hm).1
      unfold D6
      rw [hlm, A6 hm]; omega
     have hend : Sh.f7 AI (.sl (enL cNd L) tk) (.int .i64 (L.length : Int)) (.sl [] .tight) B = some (.ret (Fj cN B (DP L (D6 L).toNat L.length [])), Ef cN D3 1 B (DP L (D6 L).toNat L.length [])) := q05_end tk B hL hl (D6 L).toNat L.length AI [] (by omega) (Nat.le_refl _) hlv (by
      have := (Ax hl hm).2.1
      rw [Dj]
      unfold D6
      rw [hlm, A6 hm]; omega) ⟨by simp, by simp⟩
     have hok := (OR hl (D6 L).toNat L.length [] (by omega) (Nat.le_refl _) ⟨by simp, by simp⟩).1
     have hol := KK _ _ hok
     obtain ⟨G, hG⟩ := Mm (f := cN) (ty := D3) (sz := 1) B (DP L (D6 L).toNat L.length [])
     simp only [GMb, GMc, A2, Int.lt_irrefl, hend, hG, Hz]
     have hsame : LH L = DP L (D6 L).toNat L.length [] := rfl
     rw [← hsame] at hol ⊢
     unfold Na
     generalize LH L = o at hol ⊢
     have key := DB (G := fun rec3 vs H1 => Sh.f3n H rec3 (ag vs 0) (ag vs 1) (ag vs 2) H1) o.length (fun i => decide (o.getD i 0 = i + 1)) (fun i => [.sl (enL cNd L) tk, .sl (enL cN o) (outK B o), .int .i64 (i : Int)]) (B ++ G) (some (.ret (.bool (decide (o.length = L.length))), H)) (some (.ret (.bool false), H)) (by omega) (fun rec i hi => ?_) (fun rec => ?_)
     ·refine key.trans ?_
      cases (List.range o.length).all (fun i => decide (o.getD i 0 = i + 1)) <;> simp only [GMb, GMc]
     ·have hi' : (i : Int) < (o.length : Int) := by omega
      unfold Sh.f3n
      simp only [GMb, GMc, Ai, Ah, Au, Nat.zero_add, Nat.add_zero, Nat.mul_one, Bd, A2, hi', Aw hi, List.getElem?_cons_zero, Av (show i < 9223372036854775807 by omega), hfin]
      simp only [List.getD_eq_getElem?_getD, List.getElem?_eq_getElem hi, Option.getD_some]
      by_cases he : o[i] = i + 1
      ·have : (o[i] : Int) = ((i + 1 : Nat) : Int) := by omega
       simp only [decide_eq_true this, decide_eq_true he, GMb, GMc]
      ·have : ¬ (o[i] : Int) = ((i + 1 : Nat) : Int) := by omega
       simp only [decide_eq_false this, decide_eq_false he, GMb, GMc]
     ·have hd : decide ((o.length : Int) = (L.length : Int)) = decide (o.length = L.length) := by rw [Bool.eq_iff_iff]; simp; omega
      unfold Sh.f3n
      simp only [GMb, GMc, A2, Int.lt_irrefl, hfin, hd]
theorem q05_level (L : List Nd) (tk : Tok) (H : Ab) (hL : L.length < 17592186044415) : Sh.fu (.agg [.sl (enL cNd L) tk]) H = some (.ret (.int .i64 (if L = [] then 0 else D6 L)), H) := by
 unfold Sh.fu
 simp only [GMb, GMc, Ai, Ah, Au, Nat.zero_add, Nat.add_zero, Nat.mul_one, Bd, boxQuad, GP, Nh, List.getElem?_cons_zero, A2]
 by_cases h0 : L = []
 ·subst h0; simp
 ·have hlen : L.length ≠ 0 := fun h => h0 (List.eq_nil_of_length_eq_zero h)
  have h0' : ¬ ((L.length : Int) = 0) := by omega
  have hm : L.length - 1 < L.length := by omega
  have hw : IntKind.i64.wrap ((L.length : Int) - 1) = ((L.length - 1 : Nat) : Int) := Dq (by omega) (by omega)
  have ht : D6 L = L[L.length - 1].lv := by
   unfold D6
   rw [BP (n := L.length - 1) (by omega) hm]
  simp only [h0, h0', GMb, GMc, Ai, Ah, Au, Nat.zero_add, Nat.add_zero, Nat.mul_one, Bd, hw, Aw hm, Pt, ht]
end Go.Gm
namespace Go.Gm
abbrev nd0 : Nd := ⟨0, 0, 0, 0, 0⟩
def Nd.setKid (x : Nd) (k : Nat) (c : Int) : Nd := match k with | 0 => { x with k0 := c } | 1 => { x with k1 := c } | 2 => { x with k2 := c } | _ => { x with k3 := c }
theorem Dt (x : Nd) (k : Nat) (c : Int) : (x.setKid k c).lv = x.lv := by unfold Nd.setKid; split <;> rfl
theorem JG (x : Nd) {k : Nat} (c : Int) (h : k < 4) : (x.setKid k c).kid k = c := by
 match k, h with
 | 0, _ => rfl
 | 1, _ => rfl
 | 2, _ => rfl
 | 3, _ => rfl
theorem Ds (x : Nd) {k j : Nat} (c : Int) (h : k < 4) (hj : j < 4) (hne : j ≠ k) : (x.setKid k c).kid j = x.kid j := by
 match k, j, h, hj with
 | 0, 1, _, _ => rfl
 | 0, 2, _, _ => rfl
 | 0, 3, _, _ => rfl
 | 1, 0, _, _ => rfl
 | 1, 2, _, _ => rfl
 | 1, 3, _, _ => rfl
 | 2, 0, _, _ => rfl
 | 2, 1, _, _ => rfl
 | 2, 3, _, _ => rfl
 | 3, 0, _, _ => rfl
 | 3, 1, _, _ => rfl
 | 3, 2, _, _ => rfl
 | 0, 0, _, _ => exact absurd rfl hne
 | 1, 1, _, _ => exact absurd rfl hne
 | 2, 2, _, _ => exact absurd rfl hne
 | 3, 3, _, _ => exact absurd rfl hne
section
variable {H : Ab} {p k : Nat} {x : Nd} {cs cs' : List Aa}
theorem CK (hg : H[p]? = some (.cel 0 (cNd x))) : Ad true 5 (.ptr p 0 0) H = some (.agg (cNd x)) := by
 simp only [Ad, Ba hg, Option.bind_some, if_true]; rfl
theorem DC (hg : H[p]? = some (.cel 0 (cNd x))) : Ad false 1 (.ptr p 0 0) H = some (.int .i64 x.lv) := by
 simp only [Ad, Ba hg, Option.bind_some, Bool.false_eq_true, if_false]; rfl
theorem KN (hg : H[p]? = some (.cel 0 (cNd x))) (h : k < 4) : Ad false 1 (.ptr p 0 (1 + k)) H = some (.int .i64 (x.kid k)) := by
 simp only [Ad, Ba hg, Option.bind_some, Bool.false_eq_true, if_false]; exact Cy h
theorem Cw {c : Int} (hg : H[p]? = some (.cel 0 (cNd x))) (h : k < 4) : Al 1 (.ptr p 0 (1 + k)) (.int .i64 c) H = some (H.set p (.cel 0 (cNd (x.setKid k c)))) := by
 simp only [Al, Ba hg, Option.bind_some, acells_int, CI hg]
 match k, h with
 | 0, _ => rfl
 | 1, _ => rfl
 | 2, _ => rfl
 | 3, _ => rfl
theorem DT (hg : H[p]? = some (.cel 0 cs)) (hl : cs.length = 5) : Al 5 (.ptr p 0 0) (.agg (cNd x)) H = some (H.set p (.cel 0 (cNd x))) := by
 simp only [Al, Ba hg, Option.bind_some, RU, CI hg, JO hl]
 rw [if_pos ⟨rfl, by omega⟩]
theorem CM {K : IntKind} {id g o : Nat} (h : k < 4) : AW 4 1 (.ptr id g o) (.int K (k : Int)) = some (.ptr id g (o + k)) := by
 unfold AW
 simp only []
 rw [if_pos ⟨by omega, by omega⟩]; simp

end
theorem Fg (H : Ab) : AD (some [.int .i64 0, .int .i64 0, .int .i64 0, .int .i64 0, .int .i64 0]) H = some (.ptr H.length 0 0, H ++ [.cel 0 (cNd nd0)]) := alloc_eq rfl
theorem Cu (L : List Nd) : (Ap L).getD 0 true = true := by
 have key : ∀ (l : List Nd) (E : List Bool), E[0]? = some true → (l.foldl (fun E x => E ++ [K3 E x]) E)[0]? = some true := by
  intro l
  induction l with
  | nil => intro E h; exact h
  | cons a l ih => intro E h; exact ih _ (by rw [List.getElem?_append_left (by cases E with | nil => simp at h | cons e E => simp)]; exact h)
 rw [List.getD_eq_getElem?_getD, show (Ap L)[0]? = some true from key L [true] rfl]; rfl
def Fy (L : List Nd) (x : Nd) (k : Nat) : Int := if x.kid k = 0 then 0 else (Ak L (x.kid k)).kid (3 - k)
def Bn (L : List Nd) (n : Nat) : Nd := ⟨(Ak L n).lv - 1, Fy L (Ak L n) 0, Fy L (Ak L n) 1, Fy L (Ak L n) 2, Fy L (Ak L n) 3⟩
def AU : Nat → List Nd → Nat → List Nd × Nat
 | 0, L, n => (L, n)
 | f + 1, L, n => if Ck L n then AU f (L ++ [Bn L n]) (L.length + 1) else (L, n)
def BT (L : List Nd) (n : Nat) : List Nd × Nat :=
 if (Ap L).getD n true then (L, 0) else AU (Ak L n).lv.toNat L n
theorem Nn (L : List Nd) (n : Nat) {k : Nat} (h : k < 4) : (Bn L n).kid k = Fy L (Ak L n) k := by
 match k, h with
 | 0, _ => rfl
 | 1, _ => rfl
 | 2, _ => rfl
 | 3, _ => rfl
theorem EF {L : List Nd} {x : Nd} (hl : Ar L = true) (hx : D9 (L ++ [x]) L.length = true) : Ar (L ++ [x]) = true := by
 unfold Ar
 rw [List.all_eq_true]
 intro i hi
 have hi' : i < L.length + 1 := by simpa using hi
 by_cases h : i = L.length
 ·rw [h]; exact hx
 ·have hlt : i < L.length := by omega
  have h1 := List.all_eq_true.1 hl i (by simpa using hlt)
  simp only [D9, List.getElem?_append_left hlt, List.getElem?_eq_getElem hlt, Bool.and_eq_true, List.all_eq_true] at h1 ⊢
  refine ⟨h1.1, fun k hk => ?_⟩
  have h2 := h1.2 k hk
  simp only [BS, Bool.and_eq_true, decide_eq_true_eq] at h2 ⊢
  refine ⟨h2.1, fun q1 q2 => ?_⟩
  obtain ⟨r1, r2⟩ := h2.2 q1 q2
  refine ⟨r1, fun y hy => ?_⟩
  rw [List.getElem?_append_left (by omega)] at hy
  exact r2 y hy
theorem PE {L : List Nd} {x : Nd} (h1 : 1 ≤ x.lv) (h2 : x.lv ≤ 1329) (h3 : ∀ k, k < 4 → 0 ≤ x.kid k ∧ (x.lv = 1 → x.kid k ≤ 255) ∧ (1 < x.lv → 0 < x.kid k → x.kid k ≤ L.length ∧ (Ak L (x.kid k)).lv = x.lv - 1)) : D9 (L ++ [x]) L.length = true := by
 simp only [D9, List.getElem?_append_right (Nat.le_refl _), Nat.sub_self, List.getElem?_cons_zero, Bool.and_eq_true, decide_eq_true_eq, List.all_eq_true]
 refine ⟨⟨h1, h2⟩, fun k hk => ?_⟩
 obtain ⟨q1, q2, q3⟩ := h3 k (by simpa using hk)
 simp only [BS, Bool.and_eq_true, decide_eq_true_eq]
 refine ⟨⟨q1, q2⟩, fun r1 r2 => ?_⟩
 obtain ⟨s1, s2⟩ := q3 r1 r2
 refine ⟨s1, fun y hy => ?_⟩
 have hlt : (x.kid k - 1).toNat < L.length := by omega
 rw [List.getElem?_append_left hlt, List.getElem?_eq_getElem hlt] at hy
 injection hy with hy
 rw [← hy, ← s2, BP (n := (x.kid k - 1).toNat) (by omega) hlt]
theorem GT {L : List Nd} (hl : Ar L = true) {n : Nat} (hn : n < L.length) (h2 : 2 ≤ L[n].lv) : Ar (L ++ [Bn L (n + 1)]) = true := by
 obtain ⟨l1, l2, l3⟩ := Ax hl hn
 have e : Ak L ((n + 1 : Nat) : Int) = L[n] := A6 hn
 have elv : (Bn L (n + 1)).lv = L[n].lv - 1 := by show (Ak L ((n + 1 : Nat) : Int)).lv - 1 = _; rw [e]
 refine EF hl (PE (by omega) (by omega) fun k hk => ?_)
 obtain ⟨q1, q2, q3⟩ := l3 k hk
 rw [Nn L (n + 1) hk, elv, e]
 unfold Fy
 by_cases hc : L[n].kid k = 0
 ·rw [if_pos hc]; exact ⟨by omega, fun _ => by omega, fun _ h => by omega⟩
 ·rw [if_neg hc]
  obtain ⟨m, hm⟩ : ∃ m : Nat, L[n].kid k = ((m + 1 : Nat) : Int) := ⟨(L[n].kid k - 1).toNat, by omega⟩
  obtain ⟨r1, r2⟩ := q3 (by omega) (by omega)
  have hml : m < L.length := by omega
  have hy := r2 L[m] (by rw [show (L[n].kid k - 1).toNat = m from by omega]; exact List.getElem?_eq_getElem hml)
  obtain ⟨y1, y2, y3⟩ := Ax hl hml
  rw [BP hm hml]
  obtain ⟨s1, s2, s3⟩ := y3 (3 - k) (by omega)
  refine ⟨s1, fun h => s2 (by omega), fun h h0 => ?_⟩
  obtain ⟨t1, t2⟩ := s3 (by omega) h0
  refine ⟨by omega, ?_⟩
  obtain ⟨c, hc'⟩ : ∃ c : Nat, L[m].kid (3 - k) = ((c + 1 : Nat) : Int) := ⟨(L[m].kid (3 - k) - 1).toNat, by omega⟩
  have hcl : c < L.length := by omega
  rw [BP hc' hcl]
  have := t2 L[c] (by rw [show (L[m].kid (3 - k) - 1).toNat = c from by omega]; exact List.getElem?_eq_getElem hcl)
  omega
theorem GU {L : List Nd} {n : Nat} (h : Ck L n = true) : n ≠ 0 ∧ 2 ≤ (Ak L n).lv := by
 simp only [Ck, Bool.and_eq_true, decide_eq_true_eq] at h
 exact ⟨h.1.1, h.1.2⟩
theorem RR {H G : Ab} {l : List Nd} {x : Nd} (h : l.length < 3518437208883) : AG As 5 40 (.sl (enL cNd l) (.own H.length)) (.sl (enL cNd [x]) .tight) (H ++ .tok l.length As 5 :: G) = some (.sl (enL cNd (l ++ [x])) (.own H.length), H ++ .tok (l.length + 1) As 5 :: G) := by
 have := DQ (f := cNd) (l := l) (m := [x]) (ty := As) (bytes := 40) (tk := .tight) (H := H ++ .tok l.length As 5 :: G) (t := H.length) (by simp) (by simp) (by simp; omega) (by simp; omega)
 rw [this]; simp
def Rd (f : Nat → Int) (x : Nd) : Nat → Nd
 | 0 => x
 | k + 1 => (Rd f x k).setKid k (f k)
theorem Rc (f : Nat → Int) (x : Nd) : Rd f x 4 = ⟨x.lv, f 0, f 1, f 2, f 3⟩ := rfl
theorem build_lv (z : Int) : A3 (some [.int .i64 0, .int .i64 0, .int .i64 0, .int .i64 0, .int .i64 0]) [(0, 1, .int .i64 z)] = some (.agg (cNd ⟨z, 0, 0, 0, 0⟩)) := by
 simp [A3, GW, DI, cNd]
theorem q06_shrink (L : List Nd) (tk : Tok) (n : Nat) (H : Ab) (hL : L.length < 3518437200000) (hl : Ar L = true) (hn : n ≤ L.length) :
  Sh.f2e (.sl (enL cNd L) tk) (.int .i64 (n : Int)) H = some (.ret (.tup [.sl (enL cNd (BT L n).1) .no, .int .i64 ((BT L n).2 : Int)]), H) := by
 unfold Sh.f2e
 have hb : AF 5 [] = some (.sl (enL cNd []) .tight) := rfl
 rw [hb]
 by_cases h0 : L = []
 ·subst h0
  have hn0 : n = 0 := by simpa using hn
  subst hn0
  have ha : AG As 5 40 (.sl (enL cNd []) .tight) (.sl (enL cNd []) tk) H = some (.sl (enL cNd []) .tight, H) := FT (by simp [BE, enL])
  have he := Rm [] .tight 0 H (by simp) hl (Nat.le_refl _)
  simp only [GMb, GMc, ha, he, show (Ap []).getD 0 true = true from rfl, rPN_self, EZ, C4, Dk, Kz, DZ, Option.map_some]
  rfl
 ·have ha : AG As 5 40 (.sl (enL cNd []) .tight) (.sl (enL cNd L) tk) H = some (.sl (enL cNd L) (.own H.length), H ++ [.tok L.length As 5]) := by
   have := Cv (f := cNd) (l := []) (m := L) (ty := As) (bytes := 40) (tk := tk) (H := H) h0 (by simp; omega) (by simp; omega)
   simpa using this
  simp only [GMb, GMc, ha, Rm L _ n _ (show L.length < 140737488355327 by omega) hl hn]
  unfold BT
  cases hem : (Ap L).getD n true with
  | true => simp only [GMb, GMc, DG, EZ, C4, Dk, Kz, DZ, Option.map_some]; rfl
  | false =>
   simp only [GMb, GMc]
   have hlv : (Ak L n).lv ≤ 1329 := by
    cases n with
    | zero => exfalso; rw [Cu] at hem; cases hem
    | succ m => rw [A6 hn]; exact (Ax hl hn).2.1
   have key := Br (G := fun rec1 vs H1 => Sh.f4s H rec1 (ag vs 0) (ag vs 1) H1) (σ := List Nd × Nat × Ab) (fun s => Ar s.1 = true ∧ s.2.1 ≤ s.1.length ∧ s.1.length + (Ak s.1 s.2.1).lv.toNat < 3518437208883 ∧ s.1.length + (Ak s.1 s.2.1).lv.toNat < 3518437208883)
    (fun s => [.int .i64 (s.2.1 : Int), .sl (enL cNd s.1) (.own H.length)]) (fun s => H ++ .tok s.1.length As 5 :: s.2.2) (fun s => (Ak s.1 s.2.1).lv.toNat)
    (fun s => some (.ret (.tup [.sl (enL cNd (AU (Ak s.1 s.2.1).lv.toNat s.1 s.2.1).1) .no, .int .i64 ((AU (Ak s.1 s.2.1).lv.toNat s.1 s.2.1).2 : Int)]), H)) (fun s rec hs hrec => ?_) (L, n, []) ⟨hl, hn, by dsimp only; omega, by dsimp only; omega⟩ (by dsimp only; omega)
   ·exact key
   ·obtain ⟨M, i, G⟩ := s
    obtain ⟨hs1, hs2, hs3, hs4⟩ := hs
    simp only at hs1 hs2 hs3 hs4 hrec ⊢
    unfold Sh.f4s
    simp only [GMb, GMc, Pv M _ i _ (show M.length < 140737488355327 by omega) hs1 hs2]
    cases hh : Ck M i with
    | false =>
     have : AU (Ak M i).lv.toNat M i = (M, i) := by
      cases (Ak M i).lv.toNat with
      | zero => rfl
      | succ f => simp [AU, hh]
     simp only [GMb, GMc, this, DG, EZ, C4, Dk, Kz, DZ, Option.map_some]
    | true =>
     obtain ⟨hi0, hlv2⟩ := GU hh
     obtain ⟨m, rfl⟩ : ∃ m, i = m + 1 := ⟨i - 1, by omega⟩
     have hm : m < M.length := hs2
     obtain ⟨l1, l2, l3⟩ := Ax hs1 hm
     have hx : Ak M ((m + 1 : Nat) : Int) = M[m] := A6 hm
     rw [hx] at hlv2 hs3 hrec ⊢
     have hwm : IntKind.i64.wrap (((m + 1 : Nat) : Int) - 1) = (m : Int) := by rw [A0] <;> omega
     have hwl : IntKind.i64.wrap (M[m].lv - 1) = M[m].lv - 1 := A0 (by omega) (by omega)
     have hsf : AU M[m].lv.toNat M (m + 1) = AU (M[m].lv - 1).toNat (M ++ [Bn M (m + 1)]) (M.length + 1) := by
      rw [show M[m].lv.toNat = (M[m].lv - 1).toNat + 1 from by omega]
      simp only [AU, hh, if_true]
     generalize hB : H ++ .tok M.length As 5 :: G = B
     simp only [GMb, GMc, Ai, Ah, Au, Nat.zero_add, Nat.add_zero, Nat.mul_one, Bd, hwm, Aw hm, hwl, build_lv, Fg, DT (A9 (B := B) (cs := cNd nd0)) rfl, BJ]
     refine BQ (G := fun rec2 vs H1 => Sh.f3w H rec rec2 (ag vs 0) (ag vs 1) (ag vs 2) (ag vs 3) H1) 4 (fun k => [.int .i64 ((m + 1 : Nat) : Int), .sl (enL cNd M) (.own H.length), .ptr B.length 0 0, .int .i64 (k : Int)]) (fun k => B ++ [.cel 0 (cNd (Rd (Fy M M[m]) ⟨M[m].lv - 1, 0, 0, 0, 0⟩ k))]) _ (by decide) (fun rec2 k hk => ?_) (fun rec2 => ?_)
     ·have hk' : (k : Int) < 4 := by omega
      unfold Sh.f3w
      have hinn := q05_inner M (.own H.length) m k (B ++ [.cel 0 (cNd (Rd (Fy M M[m]) ⟨M[m].lv - 1, 0, 0, 0, 0⟩ k))]) (by omega) hs1 hm hlv2 hk
      simp only [GMb, GMc, hk', hinn, Ah, Nat.zero_add, CM hk, Cw (A9 (B := B)) hk, BJ, Av (show k < 9223372036854775807 by omega)]
      rfl
     ·have hf : ¬ (((4 : Nat) : Int) < 4) := by decide
      have hel : (⟨M[m].lv - 1, Fy M M[m] 0, Fy M M[m] 1, Fy M M[m] 2, Fy M M[m] 3⟩ : Nd) = Bn M (m + 1) := by unfold Bn; rw [hx]
      unfold Sh.f3w
      rw [Rc]
      simp only [GMb, GMc, hf, CK (A9 (B := B)), FS]
      rw [← hB, List.append_assoc, List.cons_append, RR (by omega)]
      simp only [GMb, GMc, A2, List.length_append, List.length_singleton, hel]
      have hlv' : (Ak (M ++ [Bn M (m + 1)]) ((M.length + 1 : Nat) : Int)).lv = M[m].lv - 1 := by
       rw [A6 (by simp), show (M ++ [Bn M (m + 1)])[M.length]'(by simp) = Bn M (m + 1) from by simp]
       show (Ak M ((m + 1 : Nat) : Int)).lv - 1 = _
       rw [hx]
      have := hrec (M ++ [Bn M (m + 1)], M.length + 1, G ++ [.cel 0 (cNd (Bn M (m + 1)))]) ⟨GT hs1 hm hlv2, by simp, by dsimp only; rw [hlv']; simp; omega, by dsimp only; rw [hlv']; simp; omega⟩ (by dsimp only; rw [hlv']; omega)
      simp only [List.length_append, List.length_singleton] at this
      rw [this, hlv', hsf]
end Go.Gm
namespace Go.Gm
def Bx (l : List Nd) (x : Nd) : Nat := match (List.range l.length).find? (fun i => decide (l.getD i nd0 = x)) with | some i => i + 1 | none => 0
theorem CC {l : List Nd} {x : Nd} {i : Nat} : Bx l x = i + 1 ↔ l[i]? = some x ∧ ∀ j, j < i → l[j]? ≠ some x := by
 unfold Bx
 constructor
 ·intro h
  cases hf : (List.range l.length).find? (fun i => decide (l.getD i nd0 = x)) with
  | none => rw [hf] at h; dsimp only at h; omega
  | some k =>
   rw [hf] at h; dsimp only at h
   have hk : k = i := by omega
   subst hk
   rw [List.find?_range_eq_some] at hf
   obtain ⟨h1, h2, h3⟩ := hf
   have hlt : k < l.length := by simpa using h2
   simp only [decide_eq_true_eq, List.getD_eq_getElem?_getD, List.getElem?_eq_getElem hlt, Option.getD_some] at h1
   refine ⟨by rw [List.getElem?_eq_getElem hlt, h1], fun j hj e => ?_⟩
   have := h3 j hj
   simp only [List.getD_eq_getElem?_getD, e, Option.getD_some, decide_true, Bool.not_true] at this
   cases this
 ·rintro ⟨h1, h2⟩
  have hlt : i < l.length := (List.getElem?_eq_some_iff.1 h1).1
  have hf : (List.range l.length).find? (fun i => decide (l.getD i nd0 = x)) = some i := by
   rw [List.find?_range_eq_some]
   refine ⟨by simp [List.getD_eq_getElem?_getD, h1], by simpa using hlt, fun j hj => ?_⟩
   have hjl : j < l.length := by omega
   have := h2 j hj
   rw [List.getElem?_eq_getElem hjl] at this
   simp only [List.getD_eq_getElem?_getD, List.getElem?_eq_getElem hjl, Option.getD_some, Bool.not_eq_true', decide_eq_false_iff_not]
   exact fun e => this (by rw [e])
  rw [hf]
theorem FM {l : List Nd} {x : Nd} : Bx l x = 0 ↔ x ∉ l := by
 constructor
 ·intro h hx
  obtain ⟨i, hi, hxi⟩ := List.getElem_of_mem hx
  unfold Bx at h
  cases hf : (List.range l.length).find? (fun i => decide (l.getD i nd0 = x)) with
  | none =>
   have := List.find?_eq_none.1 hf i (by simpa using hi)
   simp [List.getD_eq_getElem?_getD, List.getElem?_eq_getElem hi, hxi] at this
  | some k => rw [hf] at h; dsimp only at h; omega
 ·intro h
  cases hf : Bx l x with
  | zero => rfl
  | succ i =>
   rw [CC] at hf
   exact absurd (List.mem_of_getElem? hf.1) h
theorem findN_le (l : List Nd) (x : Nd) : Bx l x ≤ l.length := by
 cases hf : Bx l x with
 | zero => omega
 | succ i => rw [CC] at hf; exact (List.getElem?_eq_some_iff.1 hf.1).1
theorem M5 {l m : List Nd} {x : Nd} (h : Bx l x ≠ 0) : Bx (l ++ m) x = Bx l x := by
 cases hf : Bx l x with
 | zero => exact absurd hf h
 | succ i =>
  rw [CC] at hf ⊢
  have hlt : i < l.length := (List.getElem?_eq_some_iff.1 hf.1).1
  refine ⟨by rw [List.getElem?_append_left hlt]; exact hf.1, fun j hj => ?_⟩
  rw [List.getElem?_append_left (by omega)]; exact hf.2 j hj
theorem R8 {l : List Nd} {x : Nd} (h : Bx l x = 0) : Bx (l ++ [x]) x = l.length + 1 := by
 rw [CC]
 refine ⟨by simp, fun j hj e => ?_⟩
 rw [List.getElem?_append_left hj] at e
 exact FM.1 h (List.mem_of_getElem? e)
def AS (out : List Nd) (x : Nd) : List Nd × Nat := if Bx out x = 0 then (out ++ [x], out.length + 1) else (out, Bx out x)
def Bk (rec : Nat → List Nd → List Nd × Nat) (x : Nd) : Nat → List Nd → List Nd × Nd
 | 0, out => (out, x)
 | k + 1, out => ((rec (x.kid k).toNat (Bk rec x k out).1).1, (Bk rec x k out).2.setKid k ((rec (x.kid k).toNat (Bk rec x k out).1).2 : Int))
def AB (L : List Nd) (E : List Bool) : Nat → Nat → List Nd → List Nd × Nat
 | 0, _, out => (out, 0)
 | v + 1, n, out =>
  if E.getD n true then (out, 0)
  else if 1 < (Ak L n).lv then AS (Bk (AB L E v) (Ak L n) 4 out).1 (Bk (AB L E v) (Ak L n) 4 out).2
  else AS out (Ak L n)
theorem JN (out : List Nd) (x : Nd) : 0 < (AS out x).2 := by
 unfold AS
 split
 ·simp
 ·dsimp only; omega
theorem Ml (out : List Nd) (x : Nd) : ∃ r, (AS out x).1 = out ++ r := by
 unfold AS
 split
 ·exact ⟨_, rfl⟩
 ·exact ⟨[], by simp⟩
theorem Py (out : List Nd) (x : Nd) (r : List Nd) : AS ((AS out x).1 ++ r) x = ((AS out x).1 ++ r, (AS out x).2) := by
 by_cases h : Bx out x = 0
 ·have h1 : AS out x = (out ++ [x], out.length + 1) := by simp [AS, h]
  rw [h1]
  have h2 : Bx (out ++ [x] ++ r) x = out.length + 1 := by rw [M5 (by rw [R8 h]; omega), R8 h]
  dsimp only
  unfold AS
  rw [h2, if_neg (by omega)]
 ·have h1 : AS out x = (out, Bx out x) := by simp [AS, h]
  rw [h1]
  dsimp only
  unfold AS
  rw [M5 h, if_neg h]
section
variable {L : List Nd} {E : List Bool}
theorem PW {rec : Nat → List Nd → List Nd × Nat} (hr : ∀ n out, ∃ r, (rec n out).1 = out ++ r) (x : Nd) : ∀ k out, ∃ r, (Bk rec x k out).1 = out ++ r
 | 0, out => ⟨[], by simp [Bk]⟩
 | k + 1, out => by
  obtain ⟨r, h⟩ := PW hr x k out
  obtain ⟨r', h'⟩ := hr (x.kid k).toNat (Bk rec x k out).1
  exact ⟨r ++ r', by simp only [Bk]; rw [h', h]; simp⟩
theorem PX : ∀ v n out, ∃ r, (AB L E v n out).1 = out ++ r
 | 0, n, out => ⟨[], by simp [AB]⟩
 | v + 1, n, out => by
  simp only [AB]
  split
  ·exact ⟨[], by simp⟩
  ·split
   ·obtain ⟨r, h⟩ := PW (PX v) (Ak L n) 4 out
    obtain ⟨r', h'⟩ := Ml (Bk (AB L E v) (Ak L n) 4 out).1 (Bk (AB L E v) (Ak L n) 4 out).2
    exact ⟨r ++ r', by rw [h', h]; simp⟩
   ·exact Ml _ _
theorem DK : ∀ v n out r, AB L E v n ((AB L E v n out).1 ++ r) = ((AB L E v n out).1 ++ r, (AB L E v n out).2)
 | 0, n, out, r => by simp [AB]
 | v + 1, n, out, r => by
  by_cases he : E.getD n true = true
  ·simp only [AB, if_pos he]
  ·by_cases hl : 1 < (Ak L n).lv
   ·have e : ∀ o, AB L E (v + 1) n o = AS (Bk (AB L E v) (Ak L n) 4 o).1 (Bk (AB L E v) (Ak L n) 4 o).2 := fun o => by simp only [AB, if_neg he, if_pos hl]
    have key : ∀ k, k ≤ 4 → ∀ s, Bk (AB L E v) (Ak L n) k ((Bk (AB L E v) (Ak L n) k out).1 ++ s) = ((Bk (AB L E v) (Ak L n) k out).1 ++ s, (Bk (AB L E v) (Ak L n) k out).2) := by
     intro k
     induction k with
     | zero => intro _ s; simp [Bk]
     | succ k ih =>
      intro hk s
      simp only [Bk]
      obtain ⟨r', h'⟩ := PX (L := L) (E := E) v ((Ak L n).kid k).toNat (Bk (AB L E v) (Ak L n) k out).1
      have hi := ih (by omega) (r' ++ s)
      have ha := DK v ((Ak L n).kid k).toNat (Bk (AB L E v) (Ak L n) k out).1 s
      rw [h'] at ha ⊢
      rw [List.append_assoc, hi]
      rw [List.append_assoc] at ha
      dsimp only
      rw [ha]
    obtain ⟨r', h'⟩ := Ml (Bk (AB L E v) (Ak L n) 4 out).1 (Bk (AB L E v) (Ak L n) 4 out).2
    have ha := Py (Bk (AB L E v) (Ak L n) 4 out).1 (Bk (AB L E v) (Ak L n) 4 out).2 r
    rw [e, e]
    rw [h'] at ha ⊢
    rw [List.append_assoc, key 4 (by omega)]
    dsimp only
    rw [List.append_assoc] at ha
    exact ha
   ·have e : ∀ o, AB L E (v + 1) n o = AS o (Ak L n) := fun o => by simp only [AB, if_neg he, if_neg hl]
    rw [e, e]; exact Py out (Ak L n) r

end
end Go.Gm
namespace Go.Gm
theorem q06_find (l : List Nd) (tk : Tok) (x : Nd) (H : Ab) (hl : l.length < 1152921504606846975) : Sh.f2f (.sl (enL cNd l) tk) (.agg (cNd x)) H = some (.ret (.int .i64 (Bx l x : Int)), H) := by
 unfold Sh.f2f
 rw [Gw (sz := 5) Ci rfl]
 simp only [GMb, GMc]
 have hp : (H ++ [Blk.cel 0 (cNd x)])[H.length]? = some (.cel 0 (cNd x)) := A9
 have key := HH (G := fun rec1 vs H1 => Sh.f3x H rec1 (ag vs 0) (ag vs 1) (ag vs 2) H1) l.length (fun i => decide (l.getD i nd0 = x)) (fun i => [.sl (enL cNd l) tk, .ptr H.length 0 0, .int .i64 (i : Int)]) (H ++ [.cel 0 (cNd x)])
  (some (.ret (.int .i64 0), H)) (fun i => some (.ret (.int .i64 ((i + 1 : Nat) : Int)), H)) (by omega) (fun rec i hi => ?_) (fun rec => ?_)
 ·refine key.trans ?_
  unfold Bx
  cases (List.range l.length).find? (fun i => decide (l.getD i nd0 = x)) <;> rfl
 ·have hi' : (i : Int) < (l.length : Int) := by omega
  unfold Sh.f3x
  simp only [GMb, GMc, A2, hi', Aw hi, Fw, CK hp, eq_nd, Av (show i < 9223372036854775807 by omega), Pt]
  simp only [List.getD_eq_getElem?_getD, List.getElem?_eq_getElem hi, Option.getD_some]
  by_cases he : l[i] = x
  ·simp only [he, GMb, GMc]
  ·simp only [he, GMb, GMc]
 ·unfold Sh.f3x
  simp only [GMb, GMc, A2, Int.lt_irrefl, Pt]
structure VS (b id : Nat) (out : List Nd) (D : List Nat) (v : Aa) (H : Ab) : Prop where
 hv : (out = [] ∧ v = .sl [] .tight) ∨ ∃ t, b ≤ t ∧ v = .sl (enL cNd out) (.own t) ∧ H[t]? = some (.tok out.length As 5)
 hd : H[id]? = some (.cel 0 (flat cN D))
structure Ext (b id : Nat) (H H' : Ab) : Prop where
 len : H.length ≤ H'.length
 cel : ∀ (i : Nat) (cs : List Aa), i ≠ id → H[i]? = some (.cel 0 cs) → H'[i]? = some (.cel 0 cs)
 old : ∀ i, i < b → H'[i]? = H[i]?
theorem Ext.refl (b id : Nat) (H : Ab) : Ext b id H H := ⟨Nat.le_refl _, fun _ _ _ h => h, fun _ _ => rfl⟩
theorem Ext.trans {b id : Nat} {H H1 H2 : Ab} (h : Ext b id H H1) (h' : Ext b id H1 H2) : Ext b id H H2 :=
 ⟨Nat.le_trans h.len h'.len, fun i cs hi hc => h'.cel i cs hi (h.cel i cs hi hc), fun i hi => (h'.old i hi).trans (h.old i hi)⟩
theorem VS.sl {b id : Nat} {out : List Nd} {D : List Nat} {v : Aa} {H : Ab} (h : VS b id out D v H) : ∃ tk, v = .sl (enL cNd out) tk := by
 rcases h.hv with ⟨rfl, rfl⟩ | ⟨t, _, rfl, _⟩
 ·exact ⟨_, rfl⟩
 ·exact ⟨_, rfl⟩
theorem M3 {H : Ab} {i : Nat} {x : Blk} (B : Blk) (h : H[i]? = some x) : (H ++ [B])[i]? = some x := by
 have := (List.getElem?_eq_some_iff.1 h).1
 rw [List.getElem?_append_left this]; exact h
theorem VS.snoc {b id : Nat} {out : List Nd} {D : List Nat} {v : Aa} {H : Ab} (h : VS b id out D v H) (B : Blk) : VS b id out D v (H ++ [B]) := by
 refine ⟨?_, M3 B h.hd⟩
 rcases h.hv with h1 | ⟨t, h1, h2, h3⟩
 ·exact .inl h1
 ·exact .inr ⟨t, h1, h2, M3 B h3⟩
theorem Ext.snoc {b id : Nat} {H : Ab} (hb : b ≤ H.length) (B : Blk) : Ext b id H (H ++ [B]) :=
 ⟨by simp, fun i cs _ h => M3 B h, fun i hi => by rw [List.getElem?_append_left (by omega)]⟩
theorem VS.put {b id p : Nat} {out : List Nd} {D : List Nat} {v : Aa} {H : Ab} {c c' : List Aa} (h : VS b id out D v H) (hp : H[p]? = some (.cel 0 c)) (hne : p ≠ id) : VS b id out D v (H.set p (.cel 0 c')) := by
 refine ⟨?_, by rw [List.getElem?_set_ne hne]; exact h.hd⟩
 rcases h.hv with h1 | ⟨t, h1, h2, h3⟩
 ·exact .inl h1
 ·refine .inr ⟨t, h1, h2, ?_⟩
  have : p ≠ t := fun e => by rw [← e, hp] at h3; cases h3
  rw [List.getElem?_set_ne this]; exact h3
theorem VS.app {b id : Nat} {out : List Nd} {D : List Nat} {v : Aa} {H : Ab} (h : VS b id out D v H) (hb : b ≤ H.length) (x : Nd) (hl : out.length < 3518437208883) :
  ∃ v' H', AG As 5 40 v (.sl (enL cNd [x]) .tight) H = some (v', H') ∧ VS b id (out ++ [x]) D v' H' ∧ Ext b id H H' := by
 rcases h.hv with ⟨rfl, rfl⟩ | ⟨t, h1, rfl, h3⟩
 ·have := Cv (f := cNd) (l := []) (m := [x]) (ty := As) (bytes := 40) (tk := .tight) (H := H) (by simp) (by simp) (by simp)
  refine ⟨_, _, this, ⟨.inr ⟨H.length, hb, rfl, by simp⟩, M3 _ h.hd⟩, Ext.snoc hb _⟩
 ·have := DQ (f := cNd) (l := out) (m := [x]) (ty := As) (bytes := 40) (tk := .tight) (H := H) (t := t) (by simp) h3 (by simp; omega) (by simp; omega)
  have htl := (List.getElem?_eq_some_iff.1 h3).1
  refine ⟨_, _, this, ⟨.inr ⟨t, h1, rfl, by simp [htl]⟩, ?_⟩, ⟨by simp, fun i cs hi hc => ?_, fun i hi => ?_⟩⟩
  ·have : t ≠ id := fun e => by have := h.hd; rw [← e, h3] at this; cases this
   rw [List.getElem?_set_ne this]; exact h.hd
  ·have : t ≠ i := fun e => by rw [← e, h3] at hc; cases hc
   rw [List.getElem?_set_ne this]; exact hc
  ·rw [List.getElem?_set_ne (by omega)]
structure VI (L out : List Nd) (D : List Nat) : Prop where
 len : D.length = L.length + 1
 cnt : out.length ≤ D.countP (fun d => decide (0 < d))
 val : ∀ (n d : Nat), D[n]? = some d → 0 < d → AB L (Ap L) (Ak L n).lv.toNat n out = (out, d)
theorem VI.grow {L out r : List Nd} {D : List Nat} (h : ∀ (n d : Nat), D[n]? = some d → 0 < d → AB L (Ap L) (Ak L n).lv.toNat n out = (out, d)) : ∀ (n d : Nat), D[n]? = some d → 0 < d → AB L (Ap L) (Ak L n).lv.toNat n (out ++ r) = (out ++ r, d) := by
 intro n d h1 h2
 have h3 := h n d h1 h2
 have := DK (L := L) (E := Ap L) (Ak L n).lv.toNat n out r
 rwa [h3] at this
theorem VI.le {L out : List Nd} {D : List Nat} (h : VI L out D) : out.length ≤ L.length + 1 := by
 have := h.cnt
 have := List.countP_le_length (p := fun d : Nat => decide (0 < d)) (l := D)
 have := h.len
 omega
theorem insF_lv {L : List Nd} {E : List Bool} {v n : Nat} {out : List Nd} (he : E.getD n true = false) (hl : 1 < (Ak L n).lv) : AB L E (v + 1) n out = AS (Bk (AB L E v) (Ak L n) 4 out).1 (Bk (AB L E v) (Ak L n) 4 out).2 := by
 simp only [AB, he, Bool.false_eq_true, if_false, if_pos hl]
theorem insF_one {L : List Nd} {E : List Bool} {v n : Nat} {out : List Nd} (he : E.getD n true = false) (hl : ¬ 1 < (Ak L n).lv) : AB L E (v + 1) n out = AS out (Ak L n) := by
 simp only [AB, he, Bool.false_eq_true, if_false, if_neg hl]
theorem insK_lv (rec : Nat → List Nd → List Nd × Nat) (x : Nd) : ∀ k out, (Bk rec x k out).2.lv = x.lv
 | 0, out => rfl
 | k + 1, out => by simp only [Bk, Dt]; exact insK_lv rec x k out
theorem insK_kid (rec : Nat → List Nd → List Nd × Nat) (x : Nd) : ∀ k out j, k ≤ j → j < 4 → (Bk rec x k out).2.kid j = x.kid j
 | 0, out, j, _, _ => rfl
 | k + 1, out, j, h1, h2 => by
  simp only [Bk]
  rw [Ds _ _ (by omega) h2 (by omega)]
  exact insK_kid rec x k out j (by omega) h2
theorem q06_visit {L : List Nd} (tk tk2 : Tok) (b id : Nat) (hL : L.length < 3518437208880) (hl : Ar L = true) : ∀ (v n d : Nat) (out : List Nd) (D : List Nat) (w : Aa) (H : Ab), n ≤ L.length → (n = 0 ∨ (Ak L n).lv.toNat = v) → v < d → b ≤ id → id < H.length → VS b id out D w H → VI L out D →
  ∃ H' D' w', Sh.fd d (.sl (enL cNd L) tk) (.sl (enL cB (Ap L)) tk2) (.int .i64 (n : Int)) w (.ms id 0 0 (L.length + 1) (L.length + 1) 1 true) H = some (.ret (.tup [w', .ms id 0 0 (L.length + 1) (L.length + 1) 1 true, .int .i64 ((AB L (Ap L) v n out).2 : Int)]), H') ∧
   VS b id (AB L (Ap L) v n out).1 D' w' H' ∧ Ext b id H H' ∧ VI L (AB L (Ap L) v n out).1 D' ∧ ∀ j, n < j → D'[j]? = D[j]? := by
 intro v
 induction v with
 | zero =>
  intro n d out D w H hn hv hd hbi hid hVS hVI
  have hb : b ≤ H.length := by omega
  obtain ⟨d, rfl⟩ : ∃ e, d = e + 1 := ⟨d - 1, by omega⟩
  have hn0 : n = 0 := by
   rcases hv with h | h
   ·exact h
   ·cases n with
    | zero => rfl
    | succ m =>
     rw [A6 (show m < L.length from hn)] at h
     have := (Ax hl (show m < L.length from hn)).1; omega
  subst hn0
  have hlt : 0 < (Ap L).length := by rw [BK]; omega
  have he : (Ap L)[0] = true := by have := Cu L; rw [List.getD_eq_getElem?_getD, List.getElem?_eq_getElem hlt] at this; exact this
  refine ⟨H, D, w, ?_, hVS, Ext.refl _ _ _, hVI, fun _ _ => rfl⟩
  show Sh.f2t (Sh.fd d) _ _ _ _ _ _ = _
  unfold Sh.f2t
  simp only [GMb, GMc, Ai, Ah, Au, Nat.zero_add, Nat.add_zero, Nat.mul_one, Bd, Aw hlt, List.getElem?_cons_zero, he]
  rfl
 | succ v ih =>
  intro n d out D w H hn hv hd hbi hid hVS hVI
  have hb : b ≤ H.length := by omega
  obtain ⟨d, rfl⟩ : ∃ e, d = e + 1 := ⟨d - 1, by omega⟩
  have hlt : n < (Ap L).length := by rw [BK]; omega
  have hgd : (Ap L).getD n true = (Ap L)[n] := by rw [List.getD_eq_getElem?_getD, List.getElem?_eq_getElem hlt]; rfl
  have hDn : n < D.length := by rw [hVI.len]; omega
  have hidx := Ek (sz := 1) (id := id) (n := L.length + 1) (K := .i64) (g := 0) (off := 0) (cap := L.length + 1) (ex := true) (i := n) (by omega)
  simp only [Nat.zero_add, Nat.mul_one] at hidx
  have hld := HJ (f := cN) (Ba hVS.hd) hDn
  show ∃ H' D' w', Sh.f2t (Sh.fd d) _ _ _ _ _ _ = _ ∧ _
  unfold Sh.f2t
  simp only [GMb, GMc, Ai, Ah, Au, Nat.zero_add, Nat.add_zero, Nat.mul_one, Bd, Aw hlt, List.getElem?_cons_zero]
  cases he : (Ap L)[n] with
  | true =>
   have e : AB L (Ap L) (v + 1) n out = (out, 0) := by simp only [AB, hgd, he, if_true]
   rw [e]
   exact ⟨H, D, w, by simp only [GMb, GMc]; rfl, hVS, Ext.refl _ _ _, hVI, fun _ _ => rfl⟩
  | false =>
   rw [he] at hgd
   simp only [GMb, GMc, hidx, hld, List.getElem?_cons_zero]
   by_cases hpos : 0 < D[n]
   ·have hi : (D[n] : Int) > 0 := by omega
    have hv' : (Ak L n).lv.toNat = v + 1 := by
     rcases hv with h | h
     ·exfalso; subst h; rw [Cu] at hgd; cases hgd
     ·exact h
    have e := hVI.val n D[n] (List.getElem?_eq_getElem hDn) hpos
    rw [hv'] at e
    rw [e]
    exact ⟨H, D, w, by simp only [GMb, GMc, hi], hVS, Ext.refl _ _ _, hVI, fun _ _ => rfl⟩
   ·have hi : ¬ (D[n] : Int) > 0 := by omega
    have hD0 : D[n] = 0 := by omega
    obtain ⟨m, rfl⟩ : ∃ m, n = m + 1 := ⟨n - 1, by
     cases n with
     | zero => rw [Cu] at hgd; cases hgd
     | succ n => rfl⟩
    have hm : m < L.length := hn
    have hv' : (Ak L ((m + 1 : Nat) : Int)).lv.toNat = v + 1 := by
     rcases hv with h | h
     ·omega
     ·exact h
    obtain ⟨l1, l2, l3⟩ := Ax hl hm
    have hx : Ak L ((m + 1 : Nat) : Int) = L[m] := A6 hm
    rw [hx] at hv'
    have hwm : IntKind.i64.wrap (((m + 1 : Nat) : Int) - 1) = (m : Int) := by rw [A0] <;> omega
    simp only [GMb, GMc, hi, hwm, Aw hm, Fw, Fg, DT (A9 (B := H) (cs := cNd nd0)) rfl, BJ]
    generalize hX : L[m] = x at l1 l2 l3 hv' hx
    have hpid : H.length ≠ id := by omega
    have loop := My (G := fun rec1 vs H1 => Sh.f3y H (Sh.fd d) rec1 (ag vs 0) (ag vs 1) (ag vs 2) (ag vs 3) (ag vs 4) (ag vs 5) (ag vs 6) H1) (if 1 < x.lv then 4 else 0)
     (fun k vs Hc => ∃ w' D', vs = [.sl (enL cNd L) tk, .sl (enL cB (Ap L)) tk2, .int .i64 ((m + 1 : Nat) : Int), w', .ms id 0 0 (L.length + 1) (L.length + 1) 1 true, .ptr H.length 0 0, .int .i64 (k : Int)] ∧ VS b id (Bk (AB L (Ap L) v) x k out).1 D' w' Hc ∧ Hc[H.length]? = some (.cel 0 (cNd (Bk (AB L (Ap L) v) x k out).2)) ∧ Ext b id H Hc ∧ VI L (Bk (AB L (Ap L) v) x k out).1 D' ∧ (∀ j, m < j → D'[j]? = D[j]?))
     (by split <;> decide) (fun k vs Hc hk hI => ?_) (vs := [.sl (enL cNd L) tk, .sl (enL cB (Ap L)) tk2, .int .i64 ((m + 1 : Nat) : Int), w, .ms id 0 0 (L.length + 1) (L.length + 1) 1 true, .ptr H.length 0 0, .int .i64 0]) (H := H ++ [.cel 0 (cNd x)]) ⟨w, D, rfl, hVS.snoc _, by simp [Bk], Ext.snoc hb _, hVI, fun _ _ => rfl⟩
    ·obtain ⟨vs', Hc, ⟨w', D', rfl, hVS', hcell, hExt, hVI', hDD⟩, rec, hloop⟩ := loop
     rw [hloop]
     unfold Sh.f3y
     obtain ⟨tkk, rfl⟩ := hVS'.sl
     have hle := hVI'.le
     have hstop : (A7 (.bool (decide (((if 1 < x.lv then 4 else 0 : Nat) : Int) < 4))) (.bool (decide (x.lv > 1))) (.bool false)) = some (.bool false) := by
      by_cases h : 1 < x.lv <;> simp [h]
     have hlvI : (Bk (AB L (Ap L) v) x (if 1 < x.lv then 4 else 0) out).2.lv = x.lv := insK_lv _ _ _ _
     have hput : AB L (Ap L) (v + 1) (m + 1) out = AS (Bk (AB L (Ap L) v) x (if 1 < x.lv then 4 else 0) out).1 (Bk (AB L (Ap L) v) x (if 1 < x.lv then 4 else 0) out).2 := by
      by_cases h : 1 < x.lv
      ·rw [if_pos h, insF_lv hgd (by rw [hx]; exact h), hx]
      ·rw [if_neg h, insF_one hgd (by rw [hx]; exact h), hx]; rfl
     have hpre := PW (PX (L := L) (E := Ap L) v) x (if 1 < x.lv then 4 else 0) out
     rw [hput]
     have hagain := DK (L := L) (E := Ap L) (v + 1) (m + 1) out []
     rw [List.append_nil, hput] at hagain
     generalize (Bk (AB L (Ap L) v) x (if 1 < x.lv then 4 else 0) out) = io at *
     obtain ⟨o, y⟩ := io
     dsimp only at hVS' hcell hVI' hlvI hpre hagain hle ⊢
     have hcond : ∀ (A B : Out), (gk (.bool (decide (((if 1 < x.lv then 4 else 0 : Nat) : Int) < 4))) true (Ac 0 (.ptr H.length 0 0)) fun x29 => gk (.bool (decide (((if 1 < x.lv then 4 else 0 : Nat) : Int) < 4))) true (Ad false 1 x29 Hc) fun x30 => gk (.bool (decide (((if 1 < x.lv then 4 else 0 : Nat) : Int) < 4))) true (Af .none .gtr x30 (.int .i64 1)) fun x31 => (A7 (.bool (decide (((if 1 < x.lv then 4 else 0 : Nat) : Int) < 4))) x31 (.bool false)).bind fun x32 => Am x32 A B) = B := by
      intro A B
      by_cases h : 1 < x.lv
      ·have hf : ¬ (((4 : Nat) : Int) < 4) := by decide
       simp only [if_pos h, hf, GMb, GMc]
      ·have hf : (((0 : Nat) : Int) < 4) := by decide
       have h' : ¬ x.lv > 1 := h
       simp only [if_neg h, hf, GMb, GMc, Ah, Nat.add_zero, DC hcell, hlvI, h']
     simp only [AC, Ay, AO, Bq]
     rw [hcond]
     have hidx' : A4 1 (.ms id 0 0 (L.length + 1) (L.length + 1) 1 true) (.int .i64 ((m + 1 : Nat) : Int)) = some (.ptr id 0 (m + 1)) := hidx
     have hD'n : D'[m + 1]? = some 0 := by rw [hDD (m + 1) (by omega), List.getElem?_eq_getElem hDn, hD0]
     have hDl : m + 1 < D'.length := by rw [hVI'.len]; omega
     have hD'e : D'[m + 1] = 0 := by rw [List.getElem?_eq_getElem hDl] at hD'n; injection hD'n
     have fin : ∀ (o' : List Nd) (i : Nat) (w2 : Aa) (H2 : Ab), AS o y = (o', i) → VS b id o' D' w2 H2 → Ext b id H H2 → VI L o D' → o'.length ≤ o.length + 1 → (∃ r, o' = o ++ r) →
       ∃ H' D'' w'', Sh.f4t H (.int .i64 ((m + 1 : Nat) : Int)) w2 (.ms id 0 0 (L.length + 1) (L.length + 1) 1 true) (.int .i64 (i : Int)) H2 = some (.ret (.tup [w'', .ms id 0 0 (L.length + 1) (L.length + 1) 1 true, .int .i64 (i : Int)]), H') ∧ VS b id o' D'' w'' H' ∧ Ext b id H H' ∧ VI L o' D'' ∧ ∀ j, m + 1 < j → D''[j]? = D[j]? := by
      intro o' i w2 H2 hp hV2 hE2 hI2 hlen ⟨r, hr⟩
      have hi0 : 0 < i := by have := JN o y; rw [hp] at this; exact this
      have hst := FC (f := cN) (sz := 1) (l := D') (i := m + 1) (a := i) (v := .int .i64 (i : Int)) (Ba hV2.hd) hDl rfl
      rw [CI hV2.hd, Nat.mul_one] at hst
      have hidl := (List.getElem?_eq_some_iff.1 hV2.hd).1
      refine ⟨H2.set id (.cel 0 (flat cN (D'.set (m + 1) i))), D'.set (m + 1) i, w2, by unfold Sh.f4t; simp only [GMb, GMc, hidx', hst], ⟨?_, by simp [hidl]⟩, ⟨by simp; exact hE2.len, fun j cs hj hc => ?_, fun j hj => ?_⟩, ⟨by simp [hI2.len], ?_, ?_⟩, fun j hj => ?_⟩
      ·rcases hV2.hv with h1 | ⟨t, h1, h2, h3⟩
       ·exact .inl h1
       ·refine .inr ⟨t, h1, h2, ?_⟩
        have : id ≠ t := fun e => by have := hV2.hd; rw [e, h3] at this; cases this
        rw [List.getElem?_set_ne this]; exact h3
      ·rw [List.getElem?_set_ne (fun e => hj e.symm)]; exact hE2.cel j cs hj hc
      ·rw [List.getElem?_set_ne (by omega)]; exact hE2.old j hj
      ·rw [List.countP_set hDl]
       have := hI2.cnt
       simp only [hD'e, hi0, decide_true, if_true, Nat.lt_irrefl, decide_false, Bool.false_eq_true, if_false, Nat.sub_zero]
       omega
      ·intro j dd hj hdd
       by_cases hjm : j = m + 1
       ·subst hjm
        rw [List.getElem?_set_self hDl] at hj
        injection hj with hj
        subst hj
        rw [hx, hv']
        rw [hp] at hagain
        exact hagain
       ·rw [List.getElem?_set_ne (fun e => hjm e.symm)] at hj
        rw [hr]
        exact VI.grow hI2.val j dd hj hdd
      ·rw [List.getElem?_set_ne (by omega)]; exact hDD j (by omega)
     have hnd := q06_find o tkk y Hc (by omega)
     simp only [GMb, GMc, CK hcell, hnd]
     by_cases hf : Bx o y = 0
     ·have hp : AS o y = (o ++ [y], o.length + 1) := by simp [AS, hf]
      obtain ⟨w2, H2, ha, hV2, hE2⟩ := hVS'.app (Nat.le_trans hb hExt.len) y (by omega)
      obtain ⟨tk3, rfl⟩ := hV2.sl
      have h0 : ((Bx o y : Nat) : Int) = 0 := by omega
      obtain ⟨H', D'', w'', q1, q2, q3, q4, q5⟩ := fin (o ++ [y]) (o.length + 1) _ H2 hp hV2 (hExt.trans hE2) hVI' (by simp) ⟨[y], rfl⟩
      refine ⟨H', D'', w'', ?_, by rw [hp]; exact q2, q3, by rw [hp]; exact q4, q5⟩
      rw [hp, ← q1]
      simp only [GMb, GMc, h0, FS, ha, A2, List.length_append, List.length_singleton]
     ·have hp : AS o y = (o, Bx o y) := by simp [AS, hf]
      have h0 : ¬ ((Bx o y : Nat) : Int) = 0 := by omega
      obtain ⟨H', D'', w'', q1, q2, q3, q4, q5⟩ := fin o (Bx o y) _ Hc hp hVS' hExt hVI' (by omega) ⟨[], by simp⟩
      refine ⟨H', D'', w'', ?_, by rw [hp]; exact q2, q3, by rw [hp]; exact q4, q5⟩
      rw [hp, ← q1]
      simp only [GMb, GMc, h0]
    ·obtain ⟨w', D', rfl, hVS', hcell, hExt, hVI', hDD⟩ := hI
     have hlv : 1 < x.lv := by
      by_cases h : 1 < x.lv
      ·exact h
      ·rw [if_neg h] at hk; omega
     rw [if_pos hlv] at hk
     obtain ⟨q1, q2, q3⟩ := l3 k hk
     have hk' : (k : Int) < 4 := by omega
     have hlvI := insK_lv (AB L (Ap L) v) x k out
     have hkid := insK_kid (AB L (Ap L) v) x k out k (Nat.le_refl _) hk
     obtain ⟨c, hc⟩ := Int.eq_ofNat_of_zero_le q1
     have hcle : c ≤ m := by
      by_cases h0 : 0 < x.kid k
      ·have := (q3 hlv h0).1; omega
      ·omega
     have hclv : c = 0 ∨ (Ak L (c : Int)).lv.toNat = v := by
      by_cases h0 : 0 < x.kid k
      ·right
       obtain ⟨c', rfl⟩ : ∃ c', c = c' + 1 := ⟨c - 1, by omega⟩
       have hcl : c' < L.length := by omega
       have := (q3 hlv h0).2 L[c'] (by rw [show (x.kid k - 1).toNat = c' from by omega]; exact List.getElem?_eq_getElem hcl)
       rw [A6 hcl]; omega
      ·left; omega
     obtain ⟨H1, D1, w1, r1, r2, r3, r4, r5⟩ := ih c d (Bk (AB L (Ap L) v) x k out).1 D' w' Hc (by omega) hclv (by omega) hbi (Nat.lt_of_lt_of_le hid hExt.len) hVS' hVI'
     have hcell1 := r3.cel _ _ hpid hcell
     have hto : (x.kid k).toNat = c := by omega
     refine ⟨[.sl (enL cNd L) tk, .sl (enL cB (Ap L)) tk2, .int .i64 ((m + 1 : Nat) : Int), w1, .ms id 0 0 (L.length + 1) (L.length + 1) 1 true, .ptr H.length 0 0, .int .i64 ((k + 1 : Nat) : Int)], H1.set H.length (.cel 0 (cNd ((Bk (AB L (Ap L) v) x k out).2.setKid k ((AB L (Ap L) v c (Bk (AB L (Ap L) v) x k out).1).2 : Int)))), ⟨w1, D1, rfl, ?_, ?_, ?_, ?_, ?_⟩, fun rec => ?_⟩
     rotate_left 5
     ·unfold Sh.f3y
      simp only [AC, Ay, GMb, GMc, hk', Ah, Nat.add_zero, Nat.zero_add, DC hcell, hlvI, show x.lv > 1 from hlv, CM hk, KN hcell hk, hkid, hc, r1, Dx, EH, extract_2, Cw hcell1 hk, Av (show k < 9223372036854775807 by omega)]
     ·simp only [Bk, hto]
      exact r2.put hcell1 hpid
     ·have hl1 := (List.getElem?_eq_some_iff.1 hcell1).1
      simp only [Bk, hto]
      rw [List.getElem?_set_self hl1]
     ·refine ⟨by simp; exact (hExt.trans r3).len, fun i cs hi hcs => ?_, fun i hi => ?_⟩
      ·have := (List.getElem?_eq_some_iff.1 hcs).1
       rw [List.getElem?_set_ne (by omega)]; exact (hExt.trans r3).cel i cs hi hcs
      ·rw [List.getElem?_set_ne (by omega)]; exact (hExt.trans r3).old i hi
     ·simp only [Bk, hto]; exact r4
     ·intro j hj; rw [r5 j (by omega)]; exact hDD j hj
end Go.Gm
namespace Go.Gm
theorem BX {H H0 : Ab} (h : ∀ i, i < H0.length → H[i]? = H0[i]?) : H.take H0.length = H0 := by
 apply List.ext_getElem?
 intro i
 by_cases hi : i < H0.length
 ·rw [List.getElem?_take_of_lt hi, h i hi]
 ·rw [List.getElem?_eq_none (by simp; omega), List.getElem?_eq_none (by omega)]
theorem LE : ∀ (f : Nat) (L : List Nd) (n : Nat), Ar L = true → n ≤ L.length → Ar (AU f L n).1 = true ∧ (AU f L n).2 ≤ (AU f L n).1.length ∧ (AU f L n).1.length ≤ L.length + f
 | 0, L, n, hl, hn => ⟨hl, hn, Nat.le_refl _⟩
 | f + 1, L, n, hl, hn => by
  unfold AU
  cases hh : Ck L n with
  | false => exact ⟨hl, hn, by show L.length ≤ _; omega⟩
  | true =>
   obtain ⟨h0, h2⟩ := GU hh
   obtain ⟨m, rfl⟩ : ∃ m, n = m + 1 := ⟨n - 1, by omega⟩
   rw [A6 hn] at h2
   obtain ⟨r1, r2, r3⟩ := LE f (L ++ [Bn L (m + 1)]) (L.length + 1) (GT hl hn h2) (by simp)
   simp only [if_true]
   refine ⟨r1, r2, ?_⟩
   simp at r3; omega
theorem KX {L : List Nd} {n : Nat} (h : (Ap L).getD n true = false) : 0 < n := by
 cases n with
 | zero => rw [Cu] at h; cases h
 | succ n => omega
theorem lv_le {L : List Nd} (hl : Ar L = true) {n : Nat} (h0 : 0 < n) (hn : n ≤ L.length) : (Ak L (n : Int)).lv.toNat ≤ 1329 := by
 obtain ⟨m, rfl⟩ : ∃ m, n = m + 1 := ⟨n - 1, by omega⟩
 rw [A6 hn]
 have := (Ax hl hn).2.1; omega
theorem Rb {L : List Nd} {n : Nat} (hl : Ar L = true) (hn : n ≤ L.length) : Ar (BT L n).1 = true ∧ (BT L n).2 ≤ (BT L n).1.length ∧ (BT L n).1.length ≤ L.length + 1329 := by
 unfold BT
 cases he : (Ap L).getD n true with
 | true => exact ⟨hl, Nat.zero_le _, by show L.length ≤ _; omega⟩
 | false =>
  obtain ⟨r1, r2, r3⟩ := LE (Ak L n).lv.toNat L n hl hn
  have := lv_le hl (KX he) hn
  simp only [Bool.false_eq_true, if_false]
  exact ⟨r1, r2, by omega⟩
def B7 (L : List Nd) (n : Nat) : List Nd := (AB (BT L n).1 (Ap (BT L n).1) (Ak (BT L n).1 ((BT L n).2 : Int)).lv.toNat (BT L n).2 []).1
def Ls (L : List Nd) (n : Int) : Bool := Ar L && decide (0 ≤ n) && decide (n ≤ L.length)
theorem q06_of (L : List Nd) (tk : Tok) (n : Int) (H : Ab) (hL : L.length < 3518437200000) : Sh.fo (.sl (enL cNd L) tk) (.int .i64 n) H =
  some (.ret (if Ls L n then .tup [Lm (B7 L n.toNat), .int .i64 0] else .tup [Lm [], .int .i64 1]), H) := by
 unfold Sh.fo
 rw [alloc_eq (cs := [.sl [] .tight]) rfl]
 have hcell : ∀ G : Ab, (H ++ [Blk.cel 0 [.sl [] .tight]] ++ G)[H.length]? = some (.cel 0 [.sl [] .tight]) := fun G => by simp
 have bad : ∀ (k : Aa → Ab → Out), (∀ v G, k v G = (Ll [Ad true 1 (.ptr H.length 0 0) G, some (.int .i64 1)]).bind fun x19 => rPN H x19 G) →
   ((A3 (some [(.sl [] .tight)]) []).bind fun x16 => bP H (AL (Al 1 (.ptr H.length 0 0) x16 (H ++ [.cel 0 [.sl [] .tight]]))) k) = some (.ret (.tup [Lm [], .int .i64 1]), H) := by
  intro k hk
  have hb : A3 (some [(.sl [] .tight)]) [] = some (.agg [.sl [] .tight]) := rfl
  simp only [GMb, GMc, hb, FD, MR (sz := 1) (cs := [.sl [] .tight]) (vs := [.sl [] .tight]) (v := .agg [.sl [] .tight]) rfl rfl rfl, Option.map_some, hk, GP, PH, List.length_singleton, resM_eq, MU, Pq]
  simp only [DG, EZ, C4, Dk, KU, Gu, HQ, M6, DZ, GMb, GMc, Option.map_some]
  rfl
 simp only [GMb, GMc, Rl L tk _ (show L.length < 1152921504606846976 by omega)]
 unfold Ls
 cases hl : Ar L with
 | false =>
  simp only [GMb, GMc]
  exact bad _ fun v G => rfl
 | true =>
  simp only [GMb, GMc, A2]
  by_cases hn0 : n < 0
  ·have : ¬ 0 ≤ n := by omega
   simp only [GMb, GMc, hn0, this]
   exact bad _ fun v G => rfl
  ·have h0' : 0 ≤ n := by omega
   by_cases hn1 : n > L.length
   ·have : ¬ n ≤ L.length := by omega
    simp only [GMb, GMc, hn0, h0', hn1, this, A2]
    exact bad _ fun v G => rfl
   ·obtain ⟨n, rfl⟩ := Int.eq_ofNat_of_zero_le h0'
    have hle : n ≤ L.length := by omega
    have hle' : (n : Int) ≤ (L.length : Int) := by omega
    have hnn : ¬ (n : Int) > (L.length : Int) := hn1
    obtain ⟨s1, s2, s3⟩ := Rb hl hle
    simp only [GMb, GMc, hn0, h0', hnn, hle', A2, q06_shrink L tk n _ (show L.length < 3518437200000 by omega) hl hle, Dx, EH]
    unfold B7
    simp only [Int.toNat_natCast]
    generalize BT L n = s at s1 s2 s3
    obtain ⟨M, r⟩ := s
    dsimp only at s1 s2 s3 ⊢
    have hmk := F6 (f := cN) (a := 0) (n := M.length + 1) (bytes := 8) (H := H ++ [.cel 0 [.sl [] .tight]]) (by omega) (by omega)
    simp only [show cN 0 = [Aa.int .i64 0] from rfl] at hmk
    simp only [GMb, GMc, Gi M .no _ (show M.length < 140737488355327 by omega) s1, A2, Av (show M.length < 9223372036854775807 by omega), hmk]
    have hlvv : (Ak M (r : Int)).lv.toNat < AI := by
     rw [Dj]
     by_cases hr : 0 < r
     ·have := lv_le s1 hr s2; omega
     ·obtain rfl : r = 0 := by omega
      unfold Ak
      rw [List.getD_eq_getElem?_getD]
      by_cases hM : 0 < M.length
      ·rw [show (((0 : Nat) : Int) - 1).toNat = 0 from rfl, List.getElem?_eq_getElem hM]
       have := (Ax s1 hM).2.1
       simp only [Option.getD_some]; omega
      ·rw [show (((0 : Nat) : Int) - 1).toNat = 0 from rfl, List.getElem?_eq_none (by omega)]; simp
    obtain ⟨H', D', w', v1, v2, v3, v4, v5⟩ := q06_visit (L := M) .no .no (H ++ [Blk.cel 0 [.sl [] .tight]]).length (H ++ [Blk.cel 0 [.sl [] .tight]]).length (by omega) s1 (Ak M (r : Int)).lv.toNat r AI [] (List.replicate (M.length + 1) 0) (.sl [] .tight) (H ++ [.cel 0 [.sl [] .tight]] ++ [.cel 0 (flat cN (List.replicate (M.length + 1) 0))])
     s2 (.inr rfl) hlvv (Nat.le_refl _) (by simp) ⟨.inl ⟨rfl, rfl⟩, A9⟩ ⟨by simp, by simp, fun j dd hj hdd => by
      have := List.mem_of_getElem? hj
      rw [List.mem_replicate] at this; omega⟩
    have hold : ∀ i, i < H.length + 1 → H'[i]? = (H ++ [Blk.cel 0 [.sl [] .tight]])[i]? := fun i hi => by
     rw [v3.old i (by simpa using hi), List.getElem?_append_left (by simpa using hi)]
    have hc' : H'[H.length]? = some (.cel 0 [.sl [] .tight]) := by rw [hold _ (by omega)]; simp
    have hcl := (List.getElem?_eq_some_iff.1 hc').1
    obtain ⟨tk3, rfl⟩ := v2.sl
    generalize (AB M (Ap M) (Ak M (r : Int)).lv.toNat r []).1 = Q at v1 v2 v4 ⊢
    have hb : A3 (some [(.sl [] .tight)]) [(0, 1, .sl (enL cNd Q) tk3)] = some (.agg [.sl (enL cNd Q) tk3]) := by simp [A3, GW, DI]
    have hst : Al 1 (.ptr H.length 0 0) (.agg [.sl (enL cNd Q) tk3]) H' = some (H'.set H.length (.cel 0 [.sl (enL cNd Q) tk3])) := by
     simp only [Al, Ba hc', Option.bind_some, CI hc']; rfl
    have hld : Ad true 1 (.ptr H.length 0 0) (H'.set H.length (.cel 0 [.sl (enL cNd Q) tk3])) = some (.agg [.sl (enL cNd Q) tk3]) := by
     have : (H'.set H.length (.cel 0 [.sl (enL cNd Q) tk3]))[H.length]? = some (.cel 0 [.sl (enL cNd Q) tk3]) := by rw [List.getElem?_set_self hcl]
     simp only [Ad, Ba this, Option.bind_some]; rfl
    have htake : (H'.set H.length (.cel 0 [.sl (enL cNd Q) tk3])).take H.length = H := BX fun i hi => by
     rw [List.getElem?_set_ne (by omega), hold i (by omega), List.getElem?_append_left hi]
    simp only [GMb, GMc, v1, Dx, hb, hst, hld, resM_eq, MU, Pq, Option.map_some, FF htake, EZ, C4, Dk, KU, Gu, HQ, M6, DZ]
    rfl
end Go.Gm
namespace Go.Gm
theorem q01_cut (l : List Bool) (tk : Tok) (H : Ab) (hb : l.length < 1152921504606846976) : Sh.fv (.sl (enL cB l) tk) H = some (.ret (.sl (enL cB (F1 l)) .no), H) := by
 unfold Sh.fv
 refine Br (σ := List Bool × Tok) (fun s => s.1.length < 1152921504606846976) (fun s => [.sl (enL cB s.1) s.2]) (fun _ => H) (fun s => s.1.length) (fun s => some (.ret (.sl (enL cB (F1 s.1)) .no), H)) (fun s rec hs hrec => ?_) (l, tk) hb hb
 obtain ⟨l, tk⟩ := s
 simp only at hs hrec ⊢
 unfold Sh.f51
 rcases LD l with rfl | ⟨l', b, rfl⟩
 ·simp [cutL_nil]
 ·simp only [List.length_append, List.length_singleton] at hs hrec
  have h1 : l'.length < (l' ++ [b]).length := by simp
  have h2 : ((((l' ++ [b]).length : Nat) : Int) > 0) := by simp
  have h3 : IntKind.i64.wrap ((((l' ++ [b]).length : Nat) : Int) - 1) = (l'.length : Int) := by rw [A0] <;> simp <;> omega
  simp only [AC, A2, Option.bind_some, CW, h2, decide_true, Iw, Eu, h3, Aw h1, Au, List.getElem?_cons_zero, Jo, BR, List.getElem_append_right (Nat.le_refl _), Nat.sub_self, List.getElem_cons_zero]
  cases b with
  | true => simp [NE]
  | false =>
   have := hrec (l', JE tk 0 l'.length (l' ++ [false]).length false) (by dsimp only; omega) (by simp)
   simp only [Bool.not_false, AM, slice_to (Nat.le_of_lt h1), Option.bind_some, List.take_left', this, LV]
theorem q01_bits (l : List Nat) (tk : Tok) (H : Ab) (hl : l.length ≤ 2199023255552) (hx : Lim l) : Sh.fw (.sl (enL cU l) tk) H = some (.ret (.sl (enL cB (F1 (Bf l))) .no), H) := by
 unfold Sh.fw
 refine BQ l.length (fun i => [.sl (enL cU l) tk, Fj cB H (Bf (l.take i)), .int .i64 (i : Int)]) (fun i => Ef cB Ec 1 H (Bf (l.take i))) _ (by omega) (fun rec i hi => ?_) (fun rec => ?_)
 ·have hi' : (i : Int) < (l.length : Int) := by omega
  have hxi : l[i] < 4294967296 := hx _ (List.getElem_mem hi)
  have htk : Bf (l.take (i + 1)) = Bf (l.take i) ++ Co 32 l[i] := by
   rw [List.take_succ_eq_append_getElem hi, Bf, List.flatMap_append]; simp [Bf]
  have hlen : (Bf (l.take i)).length ≤ 32 * 2199023255552 := by rw [C3]; simp; omega
  unfold Sh.f2q
  simp only [AC, CT, Dp, A2, Option.bind_some, AO, hi', decide_true, AM, Aw hi, Au, List.getElem?_cons_zero, htk]
  generalize Bf (l.take i) = o at hlen
  generalize l[i] = x at hxi
  refine Br (σ := Nat × Nat × List Bool) (fun s => s.1 ≤ 32 ∧ s.2.1 < 4294967296 ∧ s.2.2.length ≤ o.length + s.1) (fun s => [.sl (enL cU l) tk, Fj cB H s.2.2, .int .i64 (i : Int), .int .u32 (s.2.1 : Int), .int .i64 (s.1 : Int)]) (fun s => Ef cB Ec 1 H s.2.2) (fun s => 32 - s.1)
   (fun s => rec [.sl (enL cU l) tk, Fj cB H (s.2.2 ++ Co (32 - s.1) s.2.1), .int .i64 ((i + 1 : Nat) : Int)] (Ef cB Ec 1 H (s.2.2 ++ Co (32 - s.1) s.2.1))) (fun s rec2 hs hrec => ?_) (0, x, o) ⟨by dsimp only; omega, hxi, by dsimp only; omega⟩ (by dsimp only; omega)
  obtain ⟨k, y, p⟩ := s
  obtain ⟨hk, hy, hp⟩ := hs
  simp only at hk hy hp hrec ⊢
  unfold Sh.f4l
  by_cases h : k < 32
  ·have h' : (k : Int) < 32 := by omega
   have e1 : (y : Int).tmod 2 = ((y % 2 : Nat) : Int) := rfl
   have e2 : IntKind.u32.wrap ((y : Int).tdiv 2) = ((y / 2 : Nat) : Int) := by rw [show (y : Int).tdiv 2 = ((y / 2 : Nat) : Int) from rfl, CZ] <;> omega
   have e3 : (((y % 2 : Nat) : Int) == 1) = (y % 2 == 1) := by rw [Bool.eq_iff_iff]; simp only [beq_iff_eq]; omega
   have e4 : IntKind.i64.wrap ((k : Int) + 1) = ((k + 1 : Nat) : Int) := by rw [A0] <;> omega
   have := hrec (k + 1, y / 2, p ++ [y % 2 == 1]) ⟨h, by dsimp only; omega, by simp; omega⟩ (by dsimp only; omega)
   simp only [AC, CT, Dp, FU, G8, AO, h', decide_true, Option.bind_some, AM, Il (show (2 : Int) ≠ 0 by decide), Lc (show (2 : Int) ≠ 0 by decide), e1, e2, D0, e3, build_B]
   rw [In (by simp) (by simp; omega) (by simp; omega)]
   simp only [C7, D5, BA, Option.bind_some, e4, this]
   rw [show 32 - k = (32 - (k + 1)) + 1 from by omega, Co]; simp
  ·have : k = 32 := by omega
   subst this
   have e4 : IntKind.i64.wrap ((i : Int) + 1) = ((i + 1 : Nat) : Int) := by rw [A0] <;> omega
   simp [Co, e4]
 ·unfold Sh.f2q
  obtain ⟨G, hG⟩ := Mm (f := cB) (ty := Ec) (sz := 1) H (Bf l)
  rw [List.take_of_length_le (Nat.le_refl _)]
  simp only [AC, CT, Dp, Hz, hG, A2, Option.bind_some, AO, Int.lt_irrefl, decide_false, AK, q01_cut (Bf l) _ _ (by rw [C3]; omega), D5, DG, KW, Option.map_some]
end Go.Gm
namespace Go.Gm
theorem q01_of (l : List Bool) (tk : Tok) (H : Ab) (hl : l.length ≤ 70368744177664) : Sh.f27 (.sl (enL cB l) tk) H = some (.ret (.sl (enL cU (C9 (CX l))) .no), H) := by
 unfold Sh.f27
 have hcl := cutL_le l
 rw [q01_cut l tk H (by omega), ← limbsOf_eq, HN]
 simp only [D5]
 generalize F1 l = c at hcl
 obtain ⟨n, hn⟩ : ∃ n, n = (c.length + 31) / 32 := ⟨_, rfl⟩
 rw [← hn]
 refine BQ n (fun q => [.sl (enL cB c) .no, Fj cU H (CA c q), .int .i64 ((32 * q : Nat) : Int)]) (fun q => Ef cU DS 1 H (CA c q)) _ (by omega) (fun rec q hq => ?_) (fun rec => ?_)
 ·have hq' : ((32 * q : Nat) : Int) < (c.length : Int) := by omega
  unfold Sh.f4n
  simp only [AC, CT, Dp, A2, Option.bind_some, AO, hq', decide_true, AM]
  have hlo : (CA c q).length = q := Ku c q
  rw [HM]
  generalize CA c q = o at hlo
  refine Br (σ := Nat) (fun j => j ≤ min 32 (c.length - 32 * q)) (fun j => [.sl (enL cB c) .no, Fj cU H o, .int .i64 ((32 * q : Nat) : Int), .int .u32 ((CX ((c.drop (32 * q)).take j) : Nat) : Int), .int .u32 (IntKind.u32.wrap ((2 : Int) ^ j)), .int .i64 ((32 * q + j : Nat) : Int)]) (fun _ => Ef cU DS 1 H o) (fun j => 32 - j)
   (fun _ => rec [.sl (enL cB c) .no, Fj cU H (o ++ [Eh c q]), .int .i64 ((32 * (q + 1) : Nat) : Int)] (Ef cU DS 1 H (o ++ [Eh c q]))) (fun j rec2 hj hrec => ?_) 0 (by omega) (by omega)
  unfold Sh.f52
  have hw : IntKind.i64.wrap (((32 * q : Nat) : Int) + 32) = ((32 * (q + 1) : Nat) : Int) := by rw [A0] <;> omega
  by_cases h : j < min 32 (c.length - 32 * q)
  ·have h1 : ((32 * q + j : Nat) : Int) < (c.length : Int) := by omega
   have h1' : 32 * q + j < c.length := by omega
   have h2 : ((32 * q + j : Nat) : Int) < ((32 * (q + 1) : Nat) : Int) := by omega
   have hw2 : IntKind.i64.wrap (((32 * q + j : Nat) : Int) + 1) = ((32 * q + (j + 1) : Nat) : Int) := by rw [A0] <;> omega
   have htake : (c.drop (32 * q)).take (j + 1) = (c.drop (32 * q)).take j ++ [c[32 * q + j]] := by
    rw [List.take_succ_eq_append_getElem (by simp; omega)]; simp
   have hlen : ((c.drop (32 * q)).take j).length = j := by simp; omega
   have hnat : CX ((c.drop (32 * q)).take (j + 1)) = CX ((c.drop (32 * q)).take j) + (if c[32 * q + j] then 2 ^ j else 0) := by
    rw [htake, ES, hlen]; simp only [CX]; split <;> simp
   have hlt1 := nat1_lt ((c.drop (32 * q)).take j)
   rw [hlen] at hlt1
   have hp : (2 : Nat) ^ j * 2 ≤ 2 ^ 32 := by rw [← Nat.pow_succ]; exact Nat.pow_le_pow_right (by omega) (by omega)
   have hpw : IntKind.u32.wrap ((2 : Int) ^ j) = ((2 ^ j : Nat) : Int) := by
    rw [show ((2 : Int) ^ j) = ((2 ^ j : Nat) : Int) from by simp, CZ] <;> omega
   have hadd : IntKind.u32.wrap (((CX ((c.drop (32 * q)).take j) : Nat) : Int) + ((2 ^ j : Nat) : Int)) = ((CX ((c.drop (32 * q)).take j) + 2 ^ j : Nat) : Int) := by rw [CZ] <;> omega
   have hmul : IntKind.u32.wrap (((2 ^ j : Nat) : Int) * 2) = IntKind.u32.wrap ((2 : Int) ^ (j + 1)) := by rw [Int.pow_succ]; simp
   have := hrec (j + 1) (by omega) (by omega)
   rw [hnat] at this
   simp only [AC, CT, Dp, FU, G8, Lw, A2, Option.bind_some, AO, h1, decide_true, Iw, BA, hw, h2, BR, AM, AN, Aw h1', Au, List.getElem?_cons_zero, hpw]
   cases hb : c[32 * q + j] with
   | true =>
    rw [hb] at this
    simp only [AM, BA, hadd, Option.bind_some, AC, CT, Dp, FU, G8, Lw, Sh.f4m, Gx, hmul, hw2]
    simpa using this
   | false =>
    rw [hb] at this
    simp only [AK, AC, CT, Dp, FU, G8, Lw, Sh.f4m, Gx, BA, hmul, hw2, Option.bind_some]
    simpa using this
  ·have hj' : j = min 32 (c.length - 32 * q) := by omega
   have hx : CX ((c.drop (32 * q)).take j) = Eh c q := by
    unfold Eh
    by_cases h : j = 32
    ·rw [h]
    ·rw [List.take_of_length_le (by simp; omega), List.take_of_length_le (by simp; omega)]
   have tail : ((AF 1 [.int .u32 ((Eh c q : Nat) : Int)]).bind fun x40 => bP H (BB (AG DS 1 4 (Fj cU H o) x40 (Ef cU DS 1 H o))) fun x41 H42 => (Af .none .add (.int .i64 ((32 * q : Nat) : Int)) (.int .i64 32)).bind fun x43 => rec [.sl (enL cB c) .no, x41, x43] H42)
     = rec [.sl (enL cB c) .no, Fj cU H (o ++ [Eh c q]), .int .i64 ((32 * (q + 1) : Nat) : Int)] (Ef cU DS 1 H (o ++ [Eh c q])) := by
    rw [build_U]
    simp only [Option.bind_some]
    rw [In (by simp) (by simp; omega) (by simp; omega)]
    simp only [C7, D5, BA, Option.bind_some, hw]
   rw [hx]
   by_cases h1 : ((32 * q + j : Nat) : Int) < (c.length : Int)
   ·have h2 : ¬ ((32 * q + j : Nat) : Int) < ((32 * (q + 1) : Nat) : Int) := by omega
    simp only [AC, CT, Dp, FU, G8, Lw, A2, Option.bind_some, AO, h1, decide_true, Iw, BA, hw, h2, decide_false, BR, AK]
    simpa only [BA, hw, Option.bind_some] using tail
   ·simp only [AC, CT, Dp, FU, G8, Lw, A2, Option.bind_some, AO, h1, decide_false, Oh, BZ, AK]
    exact tail
 ·have hq' : ¬ ((32 * n : Nat) : Int) < (c.length : Int) := by omega
  obtain ⟨G, hG⟩ := Mm (f := cU) (ty := DS) (sz := 1) H (CA c n)
  unfold Sh.f4n
  simp only [AC, CT, Dp, Hz, hG, A2, Option.bind_some, AO, hq', decide_false, AK, DG, KW, Option.map_some]
theorem q01_norm (l : List Nat) (tk : Tok) (H : Ab) (hl : l.length ≤ 1099511627776) (hx : Lim l) : Sh.fc (.sl (enL cU l) tk) H = some (.ret (.sl (enL cU (C9 (val l))) .no), H) := by
 have hc := cutL_le (Bf l)
 rw [C3] at hc
 unfold Sh.fc
 rw [q01_bits l tk H (by omega) hx]
 simp only [Fo]
 rw [q01_of _ _ _ (by omega)]
 simp only [Fo, JM, R5, PA, val_bits l hx]
end Go.Gm
namespace Go.Gm
end Go.Gm
namespace Go.Gm
def E5 (z : Int) : List Aa := [.bool (decide (z < 0)), .sl (enL cU (C9 z.natAbs)) .no]
def big (z : Int) : Aa := .agg (E5 z)
def LB (z : Int) : Prop := (C9 z.natAbs).length ≤ 549755813888
theorem RQ (z : Int) : (E5 z).all Aa.isScal = true := by simp [E5]
@[simp] theorem bigC_g0 (z : Int) (h : 0 < (E5 z).length) : (E5 z)[0] = .bool (decide (z < 0)) := (rfl)
@[simp] theorem bigC_g1 (z : Int) (h : 1 < (E5 z).length) : (E5 z)[1] = .sl (enL cU (C9 z.natAbs)) .no := (rfl)
@[simp] theorem bigC_0 (z : Int) : (E5 z)[0]? = some (.bool (decide (z < 0))) := (rfl)
@[simp] theorem bigC_1 (z : Int) : (E5 z)[1]? = some (.sl (enL cU (C9 z.natAbs)) .no) := (rfl)
@[simp] theorem big_acells (z : Int) : (big z).acells = some (E5 z) := EM (RQ z)
theorem big_sgn (neg : Bool) (n : Nat) : [Aa.bool (sgn neg n), .sl (enL cU (C9 n)) .no] = E5 (if neg then -(n : Int) else n) := by
 unfold E5
 have e1 : sgn neg n = decide ((if neg then -(n : Int) else (n : Int)) < 0) := by
  unfold sgn
  cases neg with
  | false => simp
  | true =>
   by_cases h : n = 0
   ·subst h; rfl
   ·have : (-(n : Int)) < 0 := by omega
    simp [h, this]; omega
 have e2 : (if neg then -(n : Int) else (n : Int)).natAbs = n := by cases neg <;> simp
 rw [e1, e2]
theorem limsLen_pos (n : Nat) : (decide (((C9 n).length : Int) > 0)) = decide (n ≠ 0) := by
 by_cases h : n = 0
 ·subst h; rw [KQ]; rfl
 ·have := List.length_pos_iff.2 (lims_ne h)
  have h1 : ((C9 n).length : Int) > 0 := by omega
  rw [decide_eq_true h1, decide_eq_true h]
@[simp] theorem fcells_big {H : Ab} {n d : Nat} {z : Int} : DO H n (d + 2) (E5 z) = some (E5 z) := by simp [E5]
@[simp] theorem fall_big {H : Ab} {n d : Nat} {z : Int} : Fl H n (d + 3) (big z) = some (big z) := by simp [big]
@[simp] theorem fpart_big {H : Ab} {n d : Nat} {z : Int} : En H n (d + 3) (big z) = some (big z) := by simp [big]
@[simp] theorem forget_big {z : Int} : forget (big z) = big z := by simp [big, E5]
@[simp] theorem bigC_length (z : Int) : (E5 z).length = 2 := (rfl)
@[simp] theorem agg_bigC (z : Int) : Aa.agg (E5 z) = big z := (rfl)
@[simp] theorem putN_big (cs : List Aa) (z : Int) (h : cs.length = 2) : DI cs 0 2 (E5 z) = E5 z := JO h
theorem boxBig (z : Int) (H : Ab) : Et true 2 (big z) H = some (.ptr H.length 0 0, H ++ [.cel 0 (E5 z)]) := Gw (RQ z) rfl
theorem q02_sign (neg : Bool) (l : List Nat) (tk : Tok) (H : Ab) (hl : l.length ≤ 1099511627776) (hx : Lim l) : Sh.f28 (.bool neg) (.sl (enL cU l) tk) H = some (.ret (big (if neg then -(val l : Int) else val l)), H) := by
 unfold Sh.f28 big
 rw [← big_sgn]
 have hp := limsLen_pos (val l)
 cases neg with
 | false => simp [q01_norm _ _ _ hl hx, A3, GW, DI, sgn, EM]
 | true =>
  simp only [Iw, BR, Option.bind_some, A2, CW, hp, sgn, Bool.true_and, alloc_eq (cs := [.bool false, .sl [] .tight]) rfl, BO, q01_norm _ _ _ hl hx, D5]
  simp [A3, GW, DI, EM]
theorem big_eq (z : Int) : big z = .agg [.bool (decide (z < 0)), .sl (enL cU (C9 z.natAbs)) .no] := rfl
theorem LB.neg {a : Int} (h : LB a) : LB (-a) := by unfold LB at *; rwa [Int.natAbs_neg]
end Go.Gm
namespace Go.Gm
theorem QQ {n : Int} (h0 : -18446744073709551616 ≤ n) (h : n < 0) : IntKind.u64.wrap n = n + 18446744073709551616 := by
 have h1 : IntKind.u64.bits = 64 := rfl
 have h2 : IntKind.u64.signed = false := rfl
 unfold IntKind.wrap
 simp only [h1, h2, Bool.false_and, Bool.false_eq_true, if_false]
 omega
theorem build_2U (x y : Nat) : AF 1 [.int .u32 (x : Int), .int .u32 (y : Int)] = some (.sl (enL cU [x, y]) .tight) := by simp [AF, Cc, LS, Bm, Aa.acells, enL]
theorem q02_of (n : Int) (H : Ab) (h0 : -9223372036854775808 ≤ n) (h1 : n ≤ 9223372036854775807) : Sh.fj (.int .i64 n) H = some (.ret (big n), H) := by
 obtain ⟨u, hu⟩ : ∃ u : Nat, u = n.natAbs := ⟨_, rfl⟩
 have hlim : Lim [u % 4294967296, u / 4294967296] := fun x hx => by
  simp at hx
  rcases hx with rfl | rfl <;> omega
 have hval : val [u % 4294967296, u / 4294967296] = u := by simp [val]; omega
 have ez : (if decide (n < 0) = true then -(u : Int) else (u : Int)) = n := by
  by_cases h : n < 0 <;> simp [h] <;> omega
 have a1 := fun H => q02_sign (decide (n < 0)) [u % 4294967296, u / 4294967296] .tight H (by simp) hlim
 simp only [hval, ez] at a1
 have e1 : ((u : Int).tmod 4294967296) = ((u % 4294967296 : Nat) : Int) := rfl
 have e2 : IntKind.u64.wrap ((u : Int).tdiv 4294967296) = ((u / 4294967296 : Nat) : Int) := by rw [show (u : Int).tdiv 4294967296 = ((u / 4294967296 : Nat) : Int) from rfl, CH] <;> omega
 have e3 : IntKind.u32.wrap ((u % 4294967296 : Nat) : Int) = ((u % 4294967296 : Nat) : Int) := by rw [CZ] <;> omega
 have e4 : IntKind.u32.wrap ((u / 4294967296 : Nat) : Int) = ((u / 4294967296 : Nat) : Int) := by rw [CZ] <;> omega
 have j1 : Sh.f4o H (.int .i64 n) (.ptr H.length 0 0) (.int .u64 (u : Int)) (H ++ [.cel 0 [.bool false, .sl [] .tight]]) = some (.ret (big n), H) := by
  unfold Sh.f4o
  simp only [AO, Option.bind_some, Il (show (4294967296 : Int) ≠ 0 by decide), Lc (show (4294967296 : Int) ≠ 0 by decide), e1, e2, BN, e3, e4, build_2U, a1, D5]
  simp
 unfold Sh.fj
 simp only [alloc_eq (cs := [.bool false, .sl [] .tight]) rfl, BO, BN, Option.bind_some, AN, AO, AC, CT, Dp]
 by_cases h : n < 0
 ·have w : IntKind.u64.wrap (0 - IntKind.u64.wrap n) = (u : Int) := by
   rw [QQ (n := n) (by omega) h, QQ (by omega) (by omega)]; omega
  have un : unA .neg (.int .u64 (IntKind.u64.wrap n)) = some (.int .u64 (u : Int)) := by
   rw [show unA .neg (.int .u64 (IntKind.u64.wrap n)) = some (.int .u64 (IntKind.u64.wrap (0 - IntKind.u64.wrap n))) from rfl, w]
  rw [decide_eq_true h]
  simp only [AM, un, Option.bind_some, AC, CT, Dp]
  exact j1
 ·have w : IntKind.u64.wrap n = (u : Int) := by rw [CH (by omega) (by omega)]; omega
  rw [decide_eq_false h]
  simp only [AK, w, AC, CT, Dp]
  exact j1
end Go.Gm
namespace Go.Gm
structure Cl where
 x : Int
 y : Int
 s : UInt8
deriving DecidableEq
def cCl (c : Cl) : List Aa := [.bool (decide (c.x < 0)), .sl (enL cU (C9 c.x.natAbs)) .no, .bool (decide (c.y < 0)), .sl (enL cU (C9 c.y.natAbs)) .no, .int .u8 (c.s.toNat : Int)]
instance : Sz cCl 5 := ⟨fun _ => rfl⟩
instance : Pl cCl := ⟨fun _ => rfl⟩
def cBig (z : Int) : List Aa := E5 z
instance : Sz cBig 2 := ⟨fun _ => rfl⟩
instance : Pl cBig := ⟨fun _ => rfl⟩
def SB (k : Nat) (z : Int) : Prop := z.natAbs < 4294967296 ^ k
theorem SB.mono {k m : Nat} {z : Int} (h : SB k z) (hm : k ≤ m) : SB m z := Nat.lt_of_lt_of_le h (pow_le32 hm)
theorem SB.add {k : Nat} {a b : Int} (ha : SB k a) (hb : SB k b) : SB (k + 1) (a + b) := by
 unfold SB at *
 have : 4294967296 ^ (k + 1) = 4294967296 ^ k * 4294967296 := Nat.pow_succ _ _
 omega
theorem SB.neg {k : Nat} {a : Int} (ha : SB k a) : SB k (-a) := by unfold SB at *; rwa [Int.natAbs_neg]
theorem SB.sub {k : Nat} {a b : Int} (ha : SB k a) (hb : SB k b) : SB (k + 1) (a - b) := by rw [Int.sub_eq_add_neg]; exact ha.add hb.neg
def Cl.ok (c : Cl) : Prop := SB 100 c.x ∧ SB 100 c.y
section
variable {H G : Ab} {p : Nat} {c : Cl} {z : Int}
theorem store_bigP {cs : List Aa} (hg : H[p]? = some (.cel 0 cs)) (hl : cs.length = 2) : Al 2 (.ptr p 0 0) (big z) H = some (H.set p (.cel 0 (E5 z))) := by
 simp only [Al, Ba hg, Option.bind_some, big_acells, CI hg, JO hl]
 rw [if_pos ⟨rfl, by omega⟩]
theorem B6 {i : Nat} {x : Blk} (h : H[i]? = some x) : (H ++ G)[i]? = some x := by
 have := (List.getElem?_eq_some_iff.1 h).1
 rw [List.getElem?_append_left this]; exact h

end
end Go.Gm
namespace Go.Gm
theorem elems_sl {α : Type} {f : α → List Aa} {l : List α} {tk : Tok} {sz : Nat} {H : Ab} [hf : Sz f sz] : BE sz (.sl (enL f l) tk) H = some (enL f l) := by
 simp [BE, all_enL]
end Go.Gm
namespace Go.Gm
end Go.Gm
namespace Go.Gm
def PS (b : Nat) (out : List Nd) (v : Aa) (H : Ab) : Prop := (out = [] ∧ v = .sl [] .tight) ∨ ∃ t, b ≤ t ∧ v = .sl (enL cNd out) (.own t) ∧ H[t]? = some (.tok out.length As 5)
structure Kp (b : Nat) (H H' : Ab) : Prop where
 len : H.length ≤ H'.length
 cel : ∀ (i : Nat) (cs : List Aa), H[i]? = some (.cel 0 cs) → H'[i]? = some (.cel 0 cs)
 old : ∀ i, i < b → H'[i]? = H[i]?
theorem Kp.refl (b : Nat) (H : Ab) : Kp b H H := ⟨Nat.le_refl _, fun _ _ h => h, fun _ _ => rfl⟩
theorem Kp.trans {b : Nat} {H H1 H2 : Ab} (h : Kp b H H1) (h' : Kp b H1 H2) : Kp b H H2 :=
 ⟨Nat.le_trans h.len h'.len, fun i cs hc => h'.cel i cs (h.cel i cs hc), fun i hi => (h'.old i hi).trans (h.old i hi)⟩
theorem Kp.app {b : Nat} {H : Ab} (hb : b ≤ H.length) (G : Ab) : Kp b H (H ++ G) :=
 ⟨by simp, fun i cs h => B6 h, fun i hi => by rw [List.getElem?_append_left (by omega)]⟩
theorem PS.sl {b : Nat} {out : List Nd} {v : Aa} {H : Ab} (h : PS b out v H) : ∃ tk, v = .sl (enL cNd out) tk := by
 rcases h with ⟨rfl, rfl⟩ | ⟨t, _, rfl, _⟩
 ·exact ⟨_, rfl⟩
 ·exact ⟨_, rfl⟩
theorem PS.left {b : Nat} {out : List Nd} {v : Aa} {H : Ab} (h : PS b out v H) (G : Ab) : PS b out v (H ++ G) := by
 rcases h with h1 | ⟨t, h1, h2, h3⟩
 ·exact .inl h1
 ·exact .inr ⟨t, h1, h2, B6 h3⟩
theorem PS.put {b p : Nat} {out : List Nd} {v : Aa} {H : Ab} {c c' : List Aa} (h : PS b out v H) (hp : H[p]? = some (.cel 0 c)) : PS b out v (H.set p (.cel 0 c')) := by
 rcases h with h1 | ⟨t, h1, h2, h3⟩
 ·exact .inl h1
 ·refine .inr ⟨t, h1, h2, ?_⟩
  have : p ≠ t := fun e => by rw [← e, hp] at h3; cases h3
  rw [List.getElem?_set_ne this]; exact h3
theorem PS.snoc {b : Nat} {out : List Nd} {v : Aa} {H : Ab} (h : PS b out v H) (hb : b ≤ H.length) (x : Nd) (hl : out.length < 3518437208883) :
  ∃ v' H', AG As 5 40 v (.sl (enL cNd [x]) .tight) H = some (v', H') ∧ PS b (out ++ [x]) v' H' ∧ Kp b H H' := by
 rcases h with ⟨rfl, rfl⟩ | ⟨t, h1, rfl, h3⟩
 ·have := Cv (f := cNd) (l := []) (m := [x]) (ty := As) (bytes := 40) (tk := .tight) (H := H) (by simp) (by simp) (by simp)
  exact ⟨_, _, this, .inr ⟨H.length, hb, rfl, by simp⟩, Kp.app hb _⟩
 ·have := DQ (f := cNd) (l := out) (m := [x]) (ty := As) (bytes := 40) (tk := .tight) (H := H) (t := t) (by simp) h3 (by simp; omega) (by simp; omega)
  have htl := (List.getElem?_eq_some_iff.1 h3).1
  refine ⟨_, _, this, .inr ⟨t, h1, rfl, by simp [htl]⟩, ⟨by simp, fun i cs hc => ?_, fun i hi => ?_⟩⟩
  ·have : t ≠ i := fun e => by rw [← e, h3] at hc; cases hc
   rw [List.getElem?_set_ne this]; exact hc
  ·rw [List.getElem?_set_ne (by omega)]
def TOPk (k : Nat) : Nat := 2 ^ k
def TOP : Nat := TOPk 1400
def Cn (v : Nat) (z : Int) : Prop := z.natAbs + 2 ^ v ≤ TOP
theorem abs_pow2 (v : Nat) : ((2 : Int) ^ v).natAbs = 2 ^ v := by rw [Int.natAbs_pow]; rfl
theorem Cn.add {v : Nat} {z : Int} (h : Cn (v + 1) z) : Cn v (z + 2 ^ v) ∧ Cn v z := by
 unfold Cn at *
 have e : (2 : Nat) ^ (v + 1) = 2 ^ v * 2 := Nat.pow_succ _ _
 have h1 := Int.natAbs_add_le z (2 ^ v)
 rw [abs_pow2] at h1
 omega
end Go.Gm
namespace Go.Gm
section
variable {Hc : Ab} {a c : List Aa} {z : Int}
theorem st1 (hc : c.length = 2) : Al 2 (.ptr (Hc.length + 1) 0 0) (big z) (Hc ++ [Blk.cel 0 a] ++ [Blk.cel 0 c]) = some (Hc ++ [Blk.cel 0 a] ++ [Blk.cel 0 (E5 z)]) := by
 rw [store_bigP (cs := c) (by simp) hc]; simp

end
end Go.Gm
namespace Go.Gm
end Go.Gm
namespace Go.Gm
end Go.Gm
namespace Go.Gm
structure RC where
 n1 : Bool
 l1 : List Nat
 n2 : Bool
 l2 : List Nat
 s : UInt8
def cRC (r : RC) : List Aa := [.bool r.n1, .sl (enL cU r.l1) .no, .bool r.n2, .sl (enL cU r.l2) .no, .int .u8 (r.s.toNat : Int)]
instance : Sz cRC 5 := ⟨fun _ => rfl⟩
def RC.cl (r : RC) : Cl := ⟨bigI r.n1 r.l1, bigI r.n2 r.l2, r.s⟩
end Go.Gm
namespace Go.Gm
end Go.Gm
namespace Go.Gm
def Md (c : UInt8) : Bool := decide (33 ≤ c.toNat ∧ c.toNat ≤ 126)
theorem q04_sign (c : UInt8) (H : Ab) : Sh.f22 (.int .u8 (c.toNat : Int)) H = some (.ret (.bool (Md c)), H) := by
 unfold Sh.f22 Md
 by_cases h : (33 : Int) ≤ c.toNat
 ·have : 33 ≤ c.toNat := by omega
  simp [h, this]; omega
 ·have : ¬ 33 ≤ c.toNat := by omega
  simp [h, this]
def Iu (s : List UInt8) : Bool := s.all Md && decide (1 ≤ s.length ∧ s.length ≤ 40)
theorem q04_rule (s : List UInt8) (H : Ab) (hs : s.length < 1152921504606846976) : Sh.f23 (.str s) H = some (.ret (.bool (Iu s)), H) := by
 unfold Sh.f23
 refine Br (σ := Nat) (fun i => i ≤ s.length ∧ (s.take i).all Md = true) (fun i => [.str s, .int .i64 (i : Int)]) (fun _ => H) (fun i => s.length - i) (fun _ => some (.ret (.bool (Iu s)), H)) (fun i rec hi hrec => ?_) 0 ⟨by omega, by simp⟩ (by omega)
 obtain ⟨hi, hall⟩ := hi
 unfold Sh.f50
 by_cases h : i < s.length
 ·have hx : (i : Int) < (s.length : Int) := by omega
  simp only [AC, CT, EP, Option.bind_some, AO, hx, decide_true, AM, Gr h, q04_sign, Fo, Jo]
  cases hc : Md s[i] with
  | false =>
   have : Iu s = false := by
    simp only [Iu, Bool.and_eq_false_iff]; left
    rw [List.all_eq_false]; exact ⟨s[i], List.getElem_mem h, by simp [hc]⟩
   simp [this]
  | true =>
   have := hrec (i + 1) ⟨h, by rw [List.take_succ_eq_append_getElem h, List.all_append]; simp [hall, hc]⟩ (by omega)
   simp (disch := omega) [A0]
   simpa using this
 ·have hx : ¬ (i : Int) < (s.length : Int) := by omega
  have he : s.take i = s := List.take_of_length_le (by omega)
  rw [he] at hall
  by_cases h1 : (1 : Int) ≤ s.length
  ·simp [hx, h1, Iu, hall]
   by_cases h2 : s.length ≤ 40
   ·have : (s.length : Int) ≤ 40 := by omega
    simp [this, h2]; omega
   ·have : ¬ (s.length : Int) ≤ 40 := by omega
    simp [this, h2]
  ·have : s = [] := List.eq_nil_of_length_eq_zero (by omega)
   subst this
   have hz : i = 0 := by simpa using hi
   subst hz; simp [Iu]
end Go.Gm
namespace Go.Gm
def RC.lim (r : RC) : Prop := Lim r.l1 ∧ Lim r.l2
def QA (rule : List UInt8) (L : List Nd) : List Aa := [.str rule, .sl (enL cNd L) .no]
def pat (rule : List UInt8) (L : List Nd) : Aa := .agg (QA rule L)
theorem boxPat (rule : List UInt8) (L : List Nd) (H : Ab) : Et true 2 (pat rule L) H = some (.ptr H.length 0 0, H ++ [.cel 0 (QA rule L)]) := Gw rfl rfl
section
variable {H : Ab} {p : Nat} {rule : List UInt8} {L : List Nd}
theorem PI (hg : H[p]? = some (.cel 0 (QA rule L))) : Ad false 1 (.ptr p 0 0) H = some (.str rule) := by
 simp only [Ad, Ba hg, Option.bind_some]; rfl
theorem PJ (hg : H[p]? = some (.cel 0 (QA rule L))) : Ad true 1 (.ptr p 0 1) H = some (Lm L) := by
 simp only [Ad, Ba hg, Option.bind_some]; rfl
theorem load_patP (hg : H[p]? = some (.cel 0 (QA rule L))) : Ad true 2 (.ptr p 0 0) H = some (pat rule L) := by
 simp only [Ad, Ba hg, Option.bind_some]; rfl

end
theorem q11_right (rule : List UInt8) (L : List Nd) (H : Ab) (hr : rule.length < 1152921504606846976) (hL : L.length < 17592186044415) : Sh.ft (pat rule L) H = some (.ret (.bool (Iu rule && CU L)), H) := by
 unfold Sh.ft
 have e1 : (H ++ [Blk.cel 0 (QA rule L)])[H.length]? = some (.cel 0 (QA rule L)) := A9
 simp only [GMb, GMc, boxPat, Ah, Nat.zero_add, Nat.add_zero, PI e1, q04_rule rule _ hr]
 cases Iu rule with
 | false => simp only [GMb, GMc, Mj]
 | true => simp only [GMb, GMc, Ah, Nat.zero_add, PJ e1, Lm, De, q05_right L .no _ hL, Mj]
def Qf (a b : Int) : Bool := decide (0 ≤ a) && decide (a ≤ 1000) && decide (0 ≤ b) && decide (b ≤ 100000)
end Go.Gm
namespace Go.Gm
inductive QT where
 | nil
 | leaf (a b c d : Int)
 | node (a b c d : QT)
deriving DecidableEq
def GH (L : List Nd) (E : List Bool) : Nat → Nat → QT
 | 0, _ => .nil
 | v + 1, n =>
  if E.getD n true then .nil
  else if 1 < (Ak L n).lv then .node (GH L E v (Ak L n).k0.toNat) (GH L E v (Ak L n).k1.toNat) (GH L E v (Ak L n).k2.toNat) (GH L E v (Ak L n).k3.toNat)
  else .leaf (Ak L n).k0 (Ak L n).k1 (Ak L n).k2 (Ak L n).k3
abbrev sem (L : List Nd) (v n : Nat) : QT := GH L (Ap L) v n
def St (a : Int) : Prop := 0 ≤ a ∧ a ≤ 255
def E6 : Nat → QT → Prop
 | _, .nil => True
 | v, .leaf a b c d => v = 1 ∧ (St a ∧ St b ∧ St c ∧ St d) ∧ ¬ (a = 0 ∧ b = 0 ∧ c = 0 ∧ d = 0)
 | v, .node a b c d => 2 ≤ v ∧ v ≤ 1329 ∧ (E6 (v - 1) a ∧ E6 (v - 1) b ∧ E6 (v - 1) c ∧ E6 (v - 1) d) ∧ ¬ (a = .nil ∧ b = .nil ∧ c = .nil ∧ d = .nil)
def AA : Nat → QT → List Nd → List Nd × Nat
 | _, .nil, out => (out, 0)
 | _, .leaf a b c d, out => AS out ⟨1, a, b, c, d⟩
 | v, .node a b c d, out =>
  AS (AA (v - 1) d (AA (v - 1) c (AA (v - 1) b (AA (v - 1) a out).1).1).1).1
   ⟨v, (AA (v - 1) a out).2, (AA (v - 1) b (AA (v - 1) a out).1).2, (AA (v - 1) c (AA (v - 1) b (AA (v - 1) a out).1).1).2, (AA (v - 1) d (AA (v - 1) c (AA (v - 1) b (AA (v - 1) a out).1).1).1).2⟩
theorem insK_4 (rec : Nat → List Nd → List Nd × Nat) (x : Nd) (out : List Nd) : Bk rec x 4 out =
  ((rec x.k3.toNat (rec x.k2.toNat (rec x.k1.toNat (rec x.k0.toNat out).1).1).1).1,
   ⟨x.lv, (rec x.k0.toNat out).2, (rec x.k1.toNat (rec x.k0.toNat out).1).2, (rec x.k2.toNat (rec x.k1.toNat (rec x.k0.toNat out).1).1).2, (rec x.k3.toNat (rec x.k2.toNat (rec x.k1.toNat (rec x.k0.toNat out).1).1).1).2⟩) := rfl
def Lv (L : List Nd) (v n : Nat) : Prop := n ≤ L.length ∧ (n = 0 ∨ (Ak L n).lv.toNat = v)
theorem Lv.kid {L : List Nd} (hl : Ar L = true) {v n k : Nat} (h0 : 0 < n) (h : Lv L (v + 1) n) (h1 : 1 < (Ak L n).lv) (hk : k < 4) : Lv L v ((Ak L n).kid k).toNat ∧ ((Ak L n).kid k).toNat < n ∧ 0 ≤ (Ak L n).kid k := by
 obtain ⟨m, rfl⟩ : ∃ m, n = m + 1 := ⟨n - 1, by omega⟩
 have hm : m < L.length := h.1
 obtain ⟨l1, l2, l3⟩ := Ax hl hm
 have hx : Ak L ((m + 1 : Nat) : Int) = L[m] := A6 hm
 have hv := h.2
 rw [hx] at h1 hv ⊢
 obtain ⟨q1, q2, q3⟩ := l3 k hk
 by_cases hc : 0 < L[m].kid k
 ·obtain ⟨r1, r2⟩ := q3 h1 hc
  obtain ⟨c, hcc⟩ : ∃ c : Nat, L[m].kid k = ((c + 1 : Nat) : Int) := ⟨(L[m].kid k - 1).toNat, by omega⟩
  have hcl : c < L.length := by omega
  have := r2 L[c] (by rw [show (L[m].kid k - 1).toNat = c from by omega]; exact List.getElem?_eq_getElem hcl)
  rw [hcc, show (((c + 1 : Nat) : Int)).toNat = c + 1 from by omega]
  refine ⟨⟨by omega, .inr ?_⟩, by omega, by omega⟩
  rw [A6 hcl]; omega
 ·rw [show (L[m].kid k).toNat = 0 from by omega]
  exact ⟨⟨Nat.zero_le _, .inl rfl⟩, by omega, q1⟩
theorem insF_sem {L : List Nd} (hl : Ar L = true) : ∀ v n out, Lv L v n → AB L (Ap L) v n out = AA v (sem L v n) out
 | 0, n, out, h => rfl
 | v + 1, n, out, h => by
  unfold sem
  simp only [AB, GH]
  split
  ·rfl
  ·rename_i he
   have h0 : 0 < n := KX (by simpa using he)
   have hlv : (Ak L (n : Int)).lv.toNat = v + 1 := by rcases h.2 with h | h <;> omega
   split
   ·rename_i h1
    rw [insK_4]
    have e : ∀ k, k < 4 → ∀ o, AB L (Ap L) v ((Ak L n).kid k).toNat o = AA v (sem L v ((Ak L n).kid k).toNat) o := fun k hk o => insF_sem hl v _ o (Lv.kid hl h0 h h1 hk).1
    have e0 := e 0 (by omega)
    have e1 := e 1 (by omega)
    have e2 := e 2 (by omega)
    have e3 := e 3 (by omega)
    simp only [Nd.kid] at e0 e1 e2 e3
    simp only [AA, Nat.add_sub_cancel, e0, e1, e2, e3]
    have : (Ak L (n : Int)).lv = ((v + 1 : Nat) : Int) := by omega
    rw [this]
   ·rename_i h1
    have : (Ak L (n : Int)).lv = 1 := by omega
    simp only [AA]
    congr 1
    cases hx : Ak L (n : Int) with
    | mk a b c d e => rw [hx] at this; simp only at this; rw [this]
theorem KY {L : List Nd} (hl : Ar L = true) {n : Nat} (h0 : 0 < n) (hn : n ≤ L.length) : (Ap L).getD n true = (List.range 4).all fun k => decide ((Ak L n).kid k = 0) || (decide (1 < (Ak L n).lv) && (Ap L).getD ((Ak L n).kid k).toNat true) := by
 obtain ⟨m, rfl⟩ : ∃ m, n = m + 1 := ⟨n - 1, by omega⟩
 have hm : m < L.length := hn
 have hpre : ∀ (r l : List Nd), ∃ s, Ap (l ++ r) = Ap l ++ s := by
  intro r
  induction r with
  | nil => intro l; exact ⟨[], by simp⟩
  | cons x r ih =>
   intro l
   obtain ⟨s, hs⟩ := ih (l ++ [x])
   exact ⟨[K3 (Ap l) x] ++ s, by rw [show l ++ x :: r = l ++ [x] ++ r from by simp, hs, F8]; simp⟩
 have hL : L = L.take m ++ [L[m]] ++ L.drop (m + 1) := by
  rw [← List.take_succ_eq_append_getElem hm, List.take_append_drop]
 obtain ⟨s, hs⟩ := hpre (L.drop (m + 1)) (L.take m ++ [L[m]])
 rw [← hL, F8] at hs
 have hlen : (Ap (L.take m)).length = m + 1 := by rw [BK]; simp; omega
 have hat : (Ap L).getD (m + 1) true = K3 (Ap (L.take m)) L[m] := by
  rw [hs, List.getD_eq_getElem?_getD, List.getElem?_append_left (by simp [hlen]), List.getElem?_append_right (by omega), hlen]; simp
 rw [hat, A6 hm]
 obtain ⟨l1, l2, l3⟩ := Ax hl hm
 unfold K3
 have hk : ∀ k, k < 4 → (decide (1 < L[m].lv) && (Ap (L.take m)).getD (L[m].kid k).toNat true) = (decide (1 < L[m].lv) && (Ap L).getD (L[m].kid k).toNat true) := by
  intro k hk
  obtain ⟨q1, q2, q3⟩ := l3 k hk
  by_cases h1 : 1 < L[m].lv
  ·have hlt : (L[m].kid k).toNat < m + 1 := by
    by_cases hc : 0 < L[m].kid k
    ·have := (q3 h1 hc).1; omega
    ·omega
   congr 1
   rw [hs, List.append_assoc, List.getD_eq_getElem?_getD, List.getD_eq_getElem?_getD, List.getElem?_append_left (by omega)]
  ·simp [h1]
 rw [Fi, Fi, hk 0 (by omega), hk 1 (by omega), hk 2 (by omega), hk 3 (by omega)]
theorem D8 (L : List Nd) (v : Nat) : sem L v 0 = .nil := by
 unfold sem
 cases v with
 | zero => rfl
 | succ v => simp only [GH, Cu, if_true]
theorem KI {L : List Nd} (hl : Ar L = true) {v n : Nat} (h : Lv L v n) : sem L v n = .nil ↔ (Ap L).getD n true = true := by
 unfold sem
 cases v with
 | zero =>
  refine ⟨fun _ => ?_, fun _ => rfl⟩
  rcases h.2 with h0 | h0
  ·rw [h0]; exact Cu L
  ·by_cases hn : 0 < n
   ·obtain ⟨m, rfl⟩ : ∃ m, n = m + 1 := ⟨n - 1, by omega⟩
    have hm : m < L.length := h.1
    rw [A6 hm] at h0
    have := (Ax hl hm).1; omega
   ·obtain rfl : n = 0 := by omega
    exact Cu L
 | succ v =>
  simp only [GH]
  split
  ·rename_i he; exact ⟨fun _ => he, fun _ => rfl⟩
  ·rename_i he
   split
   ·exact ⟨fun h => by (cases h), fun h => absurd h he⟩
   ·exact ⟨fun h => by (cases h), fun h => absurd h he⟩
theorem JJ {L : List Nd} (hl : Ar L = true) : ∀ v n, Lv L v n → E6 v (sem L v n)
 | 0, n, h => trivial
 | v + 1, n, h => by
  unfold sem
  simp only [GH]
  split
  ·trivial
  ·rename_i he
   have he' : (Ap L).getD n true = false := by simpa using he
   have h0 : 0 < n := KX he'
   have hlv : (Ak L (n : Int)).lv.toNat = v + 1 := by rcases h.2 with h | h <;> omega
   have hle := lv_le hl h0 h.1
   have hem := KY hl h0 h.1
   rw [he', Fi] at hem
   split
   ·rename_i h1
    have e : ∀ k, k < 4 → E6 v (sem L v ((Ak L n).kid k).toNat) := fun k hk => JJ hl v _ (Lv.kid hl h0 h h1 hk).1
    have e0 := e 0 (by omega)
    have e1 := e 1 (by omega)
    have e2 := e 2 (by omega)
    have e3 := e 3 (by omega)
    have f : ∀ k, k < 4 → sem L v ((Ak L n).kid k).toNat = .nil → (decide ((Ak L n).kid k = 0) || (decide (1 < (Ak L n).lv) && (Ap L).getD ((Ak L n).kid k).toNat true)) = true := fun k hk hs => by
     rw [KI hl (Lv.kid hl h0 h h1 hk).1] at hs; rw [hs]; simp [h1]
    refine ⟨by omega, by omega, ⟨e0, e1, e2, e3⟩, fun ⟨n0, n1, n2, n3⟩ => ?_⟩
    rw [f 0 (by omega) n0, f 1 (by omega) n1, f 2 (by omega) n2, f 3 (by omega) n3] at hem
    cases hem
   ·rename_i h1
    have hlv1 : (Ak L (n : Int)).lv = 1 := by omega
    obtain ⟨m, rfl⟩ : ∃ m, n = m + 1 := ⟨n - 1, by omega⟩
    have hm : m < L.length := h.1
    obtain ⟨l1, l2, l3⟩ := Ax hl hm
    have hx : Ak L ((m + 1 : Nat) : Int) = L[m] := A6 hm
    rw [hx] at hlv1 hem h1 ⊢
    have s : ∀ k, k < 4 → St (L[m].kid k) := fun k hk => ⟨(l3 k hk).1, (l3 k hk).2.1 hlv1⟩
    refine ⟨by rw [hx] at hlv; omega, ⟨s 0 (by omega), s 1 (by omega), s 2 (by omega), s 3 (by omega)⟩, fun ⟨n0, n1, n2, n3⟩ => ?_⟩
    simp only [Nd.kid, n0, n1, n2, n3, decide_true, Bool.true_or, Bool.and_self] at hem
    cases hem
end Go.Gm
namespace Go.Gm
structure Ex (out : List Nd) : Prop where
 lo : Ar out = true
 nd : out.Nodup
 ne : ∀ n, 0 < n → n ≤ out.length → (Ap out).getD n true = false
theorem Ex.nil : Ex [] := ⟨rfl, List.nodup_nil, fun n h1 h2 => by simp at h2; omega⟩
theorem empL_pre : ∀ (r l : List Nd), ∃ s, Ap (l ++ r) = Ap l ++ s := by
 intro r
 induction r with
 | nil => intro l; exact ⟨[], by simp⟩
 | cons x r ih =>
  intro l
  obtain ⟨s, hs⟩ := ih (l ++ [x])
  exact ⟨[K3 (Ap l) x] ++ s, by rw [show l ++ x :: r = l ++ [x] ++ r from by simp, hs, F8]; simp⟩
theorem empL_old {l r : List Nd} {n : Nat} (h : n ≤ l.length) : (Ap (l ++ r)).getD n true = (Ap l).getD n true := by
 obtain ⟨s, hs⟩ := empL_pre r l
 rw [hs, List.getD_eq_getElem?_getD, List.getD_eq_getElem?_getD, List.getElem?_append_left (by rw [BK]; omega)]
theorem Kn {l r : List Nd} {n : Nat} (h0 : 0 < n) (h : n ≤ l.length) : Ak (l ++ r) (n : Int) = Ak l (n : Int) := by
 obtain ⟨m, rfl⟩ : ∃ m, n = m + 1 := ⟨n - 1, by omega⟩
 rw [A6 (show m < (l ++ r).length by simp; omega), A6 (show m < l.length by omega), List.getElem_append_left (by omega)]
theorem Fv {l r : List Nd} (hl : Ar l = true) : ∀ v n, Lv l v n → sem (l ++ r) v n = sem l v n
 | 0, n, h => rfl
 | v + 1, n, h => by
  unfold sem
  simp only [GH, empL_old h.1]
  split
  ·rfl
  ·rename_i he
   have h0 : 0 < n := KX (by simpa using he)
   rw [Kn h0 h.1]
   split
   ·rename_i h1
    have e : ∀ k, k < 4 → sem (l ++ r) v ((Ak l n).kid k).toNat = sem l v ((Ak l n).kid k).toNat := fun k hk => Fv hl v _ (Lv.kid hl h0 h h1 hk).1
    have e0 := e 0 (by omega)
    have e1 := e 1 (by omega)
    have e2 := e 2 (by omega)
    have e3 := e 3 (by omega)
    simp only [Nd.kid, sem] at e0 e1 e2 e3
    rw [e0, e1, e2, e3]
   ·rfl
theorem Lv.old {l r : List Nd} {v n : Nat} (h : Lv l v n) : Lv (l ++ r) v n := by
 refine ⟨by have := h.1; simp; omega, ?_⟩
 rcases h.2 with h0 | h0
 ·exact .inl h0
 ·by_cases hn : 0 < n
  ·exact .inr (by rw [Kn hn h.1]; exact h0)
  ·exact .inl (by omega)
structure Fit (o : List Nd) (x : Nd) (v : Nat) (t : QT) : Prop where
 lv : x.lv = (v : Int)
 v1 : 1 ≤ v ∧ v ≤ 1329
 kid : (1 < v ∧ t = .node (sem o (v - 1) x.k0.toNat) (sem o (v - 1) x.k1.toNat) (sem o (v - 1) x.k2.toNat) (sem o (v - 1) x.k3.toNat) ∧ ∀ k, k < 4 → 0 ≤ x.kid k ∧ Lv o (v - 1) (x.kid k).toNat) ∨ (v = 1 ∧ t = .leaf x.k0 x.k1 x.k2 x.k3 ∧ ∀ k, k < 4 → St (x.kid k))
 ne : ∃ k, k < 4 ∧ x.kid k ≠ 0
structure Ins (v : Nat) (t : QT) (out o' : List Nd) (i : Nat) : Prop where
 pre : ∃ r, o' = out ++ r ∧ ∀ x ∈ r, x.lv ≤ (v : Int)
 cl : Ex o'
 lv : Lv o' v i
 sm : sem o' v i = t
 old : i ≤ out.length → o' = out
 new : out.length < i → i = o'.length
theorem fit_loose {o : List Nd} (hc : Ex o) {x : Nd} {v : Nat} {t : QT} (h : Fit o x v t) : Ar (o ++ [x]) = true := by
 refine EF hc.lo (PE (by rw [h.lv]; have := h.v1; omega) (by rw [h.lv]; have := h.v1; omega) fun k hk => ?_)
 rcases h.kid with ⟨h1, _, h2⟩ | ⟨h1, _, h2⟩
 ·obtain ⟨q1, q2⟩ := h2 k hk
  refine ⟨q1, fun e => by rw [h.lv] at e; omega, fun _ hp => ?_⟩
  have hn := q2.1
  refine ⟨by omega, ?_⟩
  rcases q2.2 with q | q
  ·omega
  ·have e : x.kid k = (((x.kid k).toNat : Nat) : Int) := by omega
   obtain ⟨m, hm⟩ : ∃ m, (x.kid k).toNat = m + 1 := ⟨(x.kid k).toNat - 1, by omega⟩
   rw [e, hm] 
   rw [hm] at q
   have hml : m < o.length := by omega
   rw [A6 hml] at q ⊢
   have := (Ax hc.lo hml).1
   rw [h.lv]; omega
 ·obtain ⟨q1, q2⟩ := h2 k hk
  exact ⟨q1, fun _ => q2, fun e => by rw [h.lv] at e; omega⟩
theorem fit_ne {o : List Nd} (hc : Ex o) {x : Nd} {v : Nat} {t : QT} (h : Fit o x v t) : K3 (Ap o) x = false := by
 obtain ⟨k, hk, hkn⟩ := h.ne
 unfold K3
 rw [List.all_eq_false]
 refine ⟨k, by simpa using hk, ?_⟩
 rcases h.kid with ⟨h1, _, h2⟩ | ⟨h1, _, h2⟩
 ·obtain ⟨q1, q2⟩ := h2 k hk
  rw [hc.ne (x.kid k).toNat (by omega) q2.1]
  simp [hkn]
 ·have : ¬ 1 < x.lv := by rw [h.lv]; omega
  simp [hkn, this]
theorem fit_sem {o : List Nd} (hc : Ex o) {x : Nd} {v : Nat} {t : QT} (h : Fit o x v t) {i : Nat} (hi : o[i]? = some x) : sem o v (i + 1) = t := by
 have hlt : i < o.length := (List.getElem?_eq_some_iff.1 hi).1
 have hx : Ak o ((i + 1 : Nat) : Int) = x := by rw [A6 hlt]; rw [List.getElem?_eq_getElem hlt] at hi; injection hi
 obtain ⟨w, rfl⟩ : ∃ w, v = w + 1 := ⟨v - 1, by have := h.v1; omega⟩
 unfold sem
 simp only [GH, hc.ne (i + 1) (by omega) (by omega), hx, h.lv, Bool.false_eq_true, if_false]
 rcases h.kid with ⟨h1, h3, h2⟩ | ⟨h1, h3, h2⟩
 ·rw [if_pos (by omega), h3]; rfl
 ·rw [if_neg (by omega), h3]
theorem Fit.old {o r : List Nd} (hc : Ex o) {x : Nd} {v : Nat} {t : QT} (h : Fit o x v t) : Fit (o ++ r) x v t := by
 refine ⟨h.lv, h.v1, ?_, h.ne⟩
 rcases h.kid with ⟨h1, h3, h2⟩ | ⟨h1, h3, h2⟩
 ·left
  refine ⟨h1, ?_, fun k hk => ⟨(h2 k hk).1, (h2 k hk).2.old⟩⟩
  have e0 := Fv (r := r) hc.lo _ _ (h2 0 (by omega)).2
  have e1 := Fv (r := r) hc.lo _ _ (h2 1 (by omega)).2
  have e2 := Fv (r := r) hc.lo _ _ (h2 2 (by omega)).2
  have e3 := Fv (r := r) hc.lo _ _ (h2 3 (by omega)).2
  simp only [Nd.kid] at e0 e1 e2 e3
  rw [e0, e1, e2, e3]; exact h3
 ·exact .inr ⟨h1, h3, h2⟩
theorem fit_clean {o : List Nd} (hc : Ex o) {x : Nd} {v : Nat} {t : QT} (h : Fit o x v t) (hn : x ∉ o) : Ex (o ++ [x]) := by
 refine ⟨fit_loose hc h, ?_, fun n h0 hle => ?_⟩
 ·rw [List.nodup_append]
  exact ⟨hc.nd, by simp, fun a ha b hb e => by simp at hb; subst hb; subst e; exact hn ha⟩
 ·by_cases hno : n ≤ o.length
  ·rw [empL_old hno]; exact hc.ne n h0 hno
  ·have e : n = o.length + 1 := by simp at hle; omega
   rw [e, F8, List.getD_eq_getElem?_getD, List.getElem?_append_right (by rw [BK]; omega), BK]
   simp [fit_ne hc h]
theorem put_ins {o : List Nd} (hc : Ex o) {x : Nd} {v : Nat} {t : QT} (h : Fit o x v t) : (∃ r, (AS o x).1 = o ++ r ∧ ∀ y ∈ r, y = x) ∧ Ex (AS o x).1 ∧ Lv (AS o x).1 v (AS o x).2 ∧ sem (AS o x).1 v (AS o x).2 = t ∧ ((AS o x).1[(AS o x).2 - 1]? = some x ∧ 0 < (AS o x).2) ∧ (((AS o x).1 = o ∧ (AS o x).2 ≤ o.length) ∨ ((AS o x).2 = o.length + 1 ∧ (AS o x).2 = (AS o x).1.length)) := by
 have hlv : x.lv.toNat = v := by rw [h.lv]; omega
 cases hf : Bx o x with
 | zero =>
  have hp : AS o x = (o ++ [x], o.length + 1) := by simp [AS, hf]
  have hn := FM.1 hf
  have hg : (o ++ [x])[o.length]? = some x := by simp
  rw [hp]
  have hc' := fit_clean hc h hn
  refine ⟨⟨[x], rfl, by simp⟩, hc', ⟨by simp, .inr ?_⟩, fit_sem hc' (h.old hc) hg, ⟨by simp, by simp⟩, .inr ⟨rfl, by simp⟩⟩
  rw [A6 (by simp)]; simp [hlv]
 | succ i =>
  have hp : AS o x = (o, i + 1) := by simp [AS, hf]
  rw [CC] at hf
  have hlt : i < o.length := (List.getElem?_eq_some_iff.1 hf.1).1
  rw [hp]
  refine ⟨⟨[], by simp, by simp⟩, hc, ⟨hlt, .inr ?_⟩, fit_sem hc h hf.1, ⟨by simpa using hf.1, by simp⟩, .inl ⟨rfl, hlt⟩⟩
  rw [A6 hlt]
  have := hf.1
  rw [List.getElem?_eq_getElem hlt] at this
  injection this with this
  rw [this, hlv]
theorem Dh : ∀ (t : QT) (v : Nat) (out : List Nd), E6 v t → Ex out → Ins v t out (AA v t out).1 (AA v t out).2
 | .nil, v, out, hg, hc => ⟨⟨[], by simp [AA], by simp⟩, hc, ⟨Nat.zero_le _, .inl rfl⟩, D8 _ _, fun _ => rfl, fun h => by simp [AA] at h⟩
 | .leaf a b c d, v, out, hg, hc => by
  obtain ⟨rfl, ⟨ha, hb, hcc, hd⟩, hne⟩ := hg
  have hfit : Fit out ⟨1, a, b, c, d⟩ 1 (.leaf a b c d) := by
   refine ⟨rfl, ⟨by omega, by omega⟩, .inr ⟨rfl, rfl, fun k hk => ?_⟩, ?_⟩
   ·match k, hk with
    | 0, _ => exact ha
    | 1, _ => exact hb
    | 2, _ => exact hcc
    | 3, _ => exact hd
   ·by_cases h0 : a = 0
    ·by_cases h1 : b = 0
     ·by_cases h2 : c = 0
      ·exact ⟨3, by omega, fun h3 => hne ⟨h0, h1, h2, h3⟩⟩
      ·exact ⟨2, by omega, h2⟩
     ·exact ⟨1, by omega, h1⟩
    ·exact ⟨0, by omega, h0⟩
  obtain ⟨⟨r, p1, p2⟩, p3, p4, p5, p6, p7⟩ := put_ins hc hfit
  refine ⟨⟨r, p1, fun x hx => by rw [p2 x hx]; simp⟩, p3, p4, p5, fun hi => ?_, fun hi => ?_⟩
  ·rcases p7 with ⟨q, _⟩ | ⟨q, _⟩
   ·exact q
   ·have : (AA 1 (.leaf a b c d) out).2 = out.length + 1 := q
    omega
  ·rcases p7 with ⟨_, q⟩ | ⟨_, q⟩
   ·have : (AA 1 (.leaf a b c d) out).2 ≤ out.length := q
    omega
   ·exact q
 | .node a b c d, v, out, hg, hc => by
  obtain ⟨h2, hv, ⟨ga, gb, gc, gd⟩, hne⟩ := hg
  have ia := Dh a (v - 1) out ga hc
  have ib := Dh b (v - 1) _ gb ia.cl
  have ic := Dh c (v - 1) _ gc ib.cl
  have id := Dh d (v - 1) _ gd ic.cl
  simp only [AA]
  generalize AA (v - 1) a out = A at ia ib ic id ⊢
  obtain ⟨o1, n0⟩ := A
  dsimp only at ia ib ic id ⊢
  generalize AA (v - 1) b o1 = B at ib ic id ⊢
  obtain ⟨o2, n1⟩ := B
  dsimp only at ib ic id ⊢
  generalize AA (v - 1) c o2 = C at ic id ⊢
  obtain ⟨o3, n2⟩ := C
  dsimp only at ic id ⊢
  generalize AA (v - 1) d o3 = D at id ⊢
  obtain ⟨o4, n3⟩ := D
  dsimp only at id ⊢
  obtain ⟨r1, e1, w1⟩ := ia.pre
  obtain ⟨r2, e2, w2⟩ := ib.pre
  obtain ⟨r3, e3, w3⟩ := ic.pre
  obtain ⟨r4, e4, w4⟩ := id.pre
  have la : Lv o4 (v - 1) n0 ∧ sem o4 (v - 1) n0 = a := by
   have : o4 = o1 ++ (r2 ++ r3 ++ r4) := by rw [e4, e3, e2]; simp
   rw [this]; exact ⟨ia.lv.old, (Fv ia.cl.lo _ _ ia.lv).trans ia.sm⟩
  have lb : Lv o4 (v - 1) n1 ∧ sem o4 (v - 1) n1 = b := by
   have : o4 = o2 ++ (r3 ++ r4) := by rw [e4, e3]; simp
   rw [this]; exact ⟨ib.lv.old, (Fv ib.cl.lo _ _ ib.lv).trans ib.sm⟩
  have lc : Lv o4 (v - 1) n2 ∧ sem o4 (v - 1) n2 = c := by
   rw [e4]; exact ⟨ic.lv.old, (Fv ic.cl.lo _ _ ic.lv).trans ic.sm⟩
  have ld : Lv o4 (v - 1) n3 ∧ sem o4 (v - 1) n3 = d := ⟨id.lv, id.sm⟩
  have nz : ∀ {n : Nat} {t : QT}, sem o4 (v - 1) n = t → t ≠ .nil → n ≠ 0 := fun h ht h0 => ht (by rw [← h, h0, D8])
  have hfit : Fit o4 ⟨v, n0, n1, n2, n3⟩ v (.node a b c d) := by
   refine ⟨rfl, ⟨by omega, hv⟩, .inl ⟨by omega, ?_, fun k hk => ?_⟩, ?_⟩
   ·simp only [Int.toNat_natCast, la.2, lb.2, lc.2, ld.2]
   ·match k, hk with
    | 0, _ => exact ⟨Int.natCast_nonneg _, by simpa [Nd.kid] using la.1⟩
    | 1, _ => exact ⟨Int.natCast_nonneg _, by simpa [Nd.kid] using lb.1⟩
    | 2, _ => exact ⟨Int.natCast_nonneg _, by simpa [Nd.kid] using lc.1⟩
    | 3, _ => exact ⟨Int.natCast_nonneg _, by simpa [Nd.kid] using ld.1⟩
   ·by_cases h0 : a = .nil
    ·by_cases h1 : b = .nil
     ·by_cases h2 : c = .nil
      ·exact ⟨3, by omega, by have := nz ld.2 (fun h3 => hne ⟨h0, h1, h2, h3⟩); simp [Nd.kid]; omega⟩
      ·exact ⟨2, by omega, by have := nz lc.2 h2; simp [Nd.kid]; omega⟩
     ·exact ⟨1, by omega, by have := nz lb.2 h1; simp [Nd.kid]; omega⟩
    ·exact ⟨0, by omega, by have := nz la.2 h0; simp [Nd.kid]; omega⟩
  obtain ⟨⟨r, p1, p2⟩, p3, p4, p5, ⟨p6, p6'⟩, p7⟩ := put_ins id.cl hfit
  have hout : o4 = out ++ (r1 ++ r2 ++ r3 ++ r4) := by rw [e4, e3, e2, e1]; simp
  have hlen : out.length ≤ o4.length := by rw [hout]; simp
  generalize hP : AS o4 ⟨v, n0, n1, n2, n3⟩ = P at p1 p3 p4 p5 p6 p6' p7 ⊢
  obtain ⟨o', i⟩ := P
  dsimp only at p1 p3 p4 p5 p6 p6' p7 ⊢
  have lvs : ∀ x ∈ r1 ++ r2 ++ r3 ++ r4, x.lv ≤ ((v - 1 : Nat) : Int) := by
   intro x hx
   simp only [List.mem_append] at hx
   rcases hx with ((hx | hx) | hx) | hx
   ·exact w1 x hx
   ·exact w2 x hx
   ·exact w3 x hx
   ·exact w4 x hx
  refine ⟨⟨r1 ++ r2 ++ r3 ++ r4 ++ r, by rw [p1, hout]; simp, fun x hx => ?_⟩, p3, p4, p5, fun hi => ?_, fun hi => ?_⟩
  ·rw [List.mem_append] at hx
   rcases hx with hx | hx
   ·have := lvs x hx; omega
   ·rw [p2 x hx]; exact Int.le_refl _
  ·rcases p7 with ⟨q, _⟩ | ⟨q, _⟩
   ·-- found among the old ones: its kids are old, too
    rw [q] at p6
    have hlt : i - 1 < out.length := by omega
    have hx : out[i - 1] = ⟨v, n0, n1, n2, n3⟩ := by
     rw [hout, List.getElem?_append_left hlt, List.getElem?_eq_getElem hlt] at p6
     injection p6
    obtain ⟨l1, l2, l3⟩ := Ax hc.lo hlt
    have hk : ∀ k, k < 4 → out[i - 1].kid k ≤ out.length := fun k hk => by
     obtain ⟨q1, q2, q3⟩ := l3 k hk
     by_cases hp : 0 < out[i - 1].kid k
     ·have := (q3 (by rw [hx]; show (1 : Int) < (v : Int); omega) hp).1; omega
     ·omega
    rw [hx] at hk
    have k0 : (n0 : Int) ≤ out.length := hk 0 (by omega)
    have k1 : (n1 : Int) ≤ out.length := hk 1 (by omega)
    have k2 : (n2 : Int) ≤ out.length := hk 2 (by omega)
    have k3 : (n3 : Int) ≤ out.length := hk 3 (by omega)
    have f1 := ia.old (by omega)
    have f2 := ib.old (by rw [f1]; omega)
    have f3 := ic.old (by rw [f2, f1]; omega)
    have f4 := id.old (by rw [f3, f2, f1]; omega)
    rw [q, f4, f3, f2, f1]
   ·omega
  ·rcases p7 with ⟨q, q'⟩ | ⟨_, q⟩
   ·exfalso
    rw [q] at p6
    have hin : (⟨v, n0, n1, n2, n3⟩ : Nd) ∈ r1 ++ r2 ++ r3 ++ r4 := by
     rw [hout, List.getElem?_append_right (by omega)] at p6
     exact List.mem_of_getElem? p6
    have := lvs _ hin
    have h3 : (v : Int) ≤ ((v - 1 : Nat) : Int) := this
    omega
   ·exact q
end Go.Gm
namespace Go.Gm
def QT.q : QT → Nat → QT
 | .node a b c d, k => match k with | 0 => a | 1 => b | 2 => c | _ => d
 | _, _ => .nil
def QT.s : QT → Nat → Int
 | .leaf a b c d, k => match k with | 0 => a | 1 => b | 2 => c | _ => d
 | _, _ => 0
def QT.isNode : QT → Bool
 | .node _ _ _ _ => true
 | _ => false
def QG (t : QT) : Bool := t.isNode && (List.range 4).all fun k => (List.range 4).all fun j => decide (j = 3 - k) || (decide ((t.q k).q j = .nil) && decide ((t.q k).s j = 0))
def G3 (v : Nat) (t : QT) : QT :=
 if v = 2 then .leaf ((t.q 0).s 3) ((t.q 1).s 2) ((t.q 2).s 1) ((t.q 3).s 0) else .node ((t.q 0).q 3) ((t.q 1).q 2) ((t.q 2).q 1) ((t.q 3).q 0)
def EC : Nat → QT → Nat × QT
 | 0, t => (0, t)
 | v + 1, t => if QG t then EC v (G3 (v + 1) t) else (v + 1, t)
theorem E6.q {v : Nat} {t : QT} (h : E6 v t) (k : Nat) : E6 (v - 1) (t.q k) := by
 cases t with
 | nil => trivial
 | leaf a b c d => trivial
 | node a b c d =>
  obtain ⟨h1, h2, ⟨ga, gb, gc, gd⟩, _⟩ := h
  unfold QT.q
  dsimp only
  split <;> assumption
theorem E6.st {v : Nat} {t : QT} (h : E6 v t) (k : Nat) : St (t.s k) := by
 cases t with
 | nil => exact ⟨Int.le_refl _, by show (0 : Int) ≤ 255; decide⟩
 | node a b c d => exact ⟨Int.le_refl _, by show (0 : Int) ≤ 255; decide⟩
 | leaf a b c d =>
  obtain ⟨h1, ⟨ga, gb, gc, gd⟩, _⟩ := h
  unfold QT.s
  dsimp only
  split <;> assumption
theorem E6.kind {v : Nat} {t : QT} (h : E6 v t) : t = .nil ∨ (v = 1 ∧ t.isNode = false ∧ ∃ a b c d, t = .leaf a b c d) ∨ (2 ≤ v ∧ v ≤ 1329 ∧ t.isNode = true) := by
 cases t with
 | nil => exact .inl rfl
 | leaf a b c d => exact .inr (.inl ⟨h.1, rfl, a, b, c, d, rfl⟩)
 | node a b c d => exact .inr (.inr ⟨h.1, h.2.1, rfl⟩)
theorem QT.eta {t : QT} (h : t.isNode = true) : t = .node (t.q 0) (t.q 1) (t.q 2) (t.q 3) := by
 cases t with
 | nil => cases h
 | leaf a b c d => cases h
 | node a b c d => rfl
theorem E6.some {v : Nat} {t : QT} (h : E6 v t) (hn : t ≠ .nil) : ∃ j, j < 4 ∧ ((v = 1 ∧ t.s j ≠ 0) ∨ (1 < v ∧ t.q j ≠ .nil)) := by
 cases t with
 | nil => exact absurd rfl hn
 | leaf a b c d =>
  obtain ⟨h1, _, h2⟩ := h
  by_cases h0 : a = 0
  ·by_cases h3 : b = 0
   ·by_cases h4 : c = 0
    ·exact ⟨3, by omega, .inl ⟨h1, fun h5 => h2 ⟨h0, h3, h4, h5⟩⟩⟩
    ·exact ⟨2, by omega, .inl ⟨h1, h4⟩⟩
   ·exact ⟨1, by omega, .inl ⟨h1, h3⟩⟩
  ·exact ⟨0, by omega, .inl ⟨h1, h0⟩⟩
 | node a b c d =>
  obtain ⟨h1, _, _, h2⟩ := h
  by_cases h0 : a = .nil
  ·by_cases h3 : b = .nil
   ·by_cases h4 : c = .nil
    ·exact ⟨3, by omega, .inr ⟨by omega, fun h5 => h2 ⟨h0, h3, h4, h5⟩⟩⟩
    ·exact ⟨2, by omega, .inr ⟨by omega, h4⟩⟩
   ·exact ⟨1, by omega, .inr ⟨by omega, h3⟩⟩
  ·exact ⟨0, by omega, .inr ⟨by omega, h0⟩⟩
theorem holT_at {t : QT} (h : QG t = true) {k j : Nat} (hk : k < 4) (hj : j < 4) (hne : j ≠ 3 - k) : (t.q k).q j = .nil ∧ (t.q k).s j = 0 := by
 simp only [QG, Bool.and_eq_true, List.all_eq_true] at h
 have := h.2 k (by simpa using hk) j (by simpa using hj)
 simpa [hne] using this
theorem Od {v : Nat} {t : QT} (h : E6 (v + 1) t) (hh : QG t = true) : E6 v (G3 (v + 1) t) ∧ G3 (v + 1) t ≠ .nil := by
 have hnode : t.isNode = true := by simp only [QG, Bool.and_eq_true] at hh; exact hh.1
 have hnn : t ≠ .nil := fun e => by subst e; cases hnode
 obtain ⟨k, hk, hkk⟩ := h.some hnn
 rcases h.kind with rfl | ⟨h1, h2, _⟩ | ⟨h1, h2, _⟩
 ·exact absurd rfl hnn
 ·rw [h2] at hnode; cases hnode
 have hq : t.q k ≠ .nil := by rcases hkk with ⟨e, _⟩ | ⟨_, e⟩; omega; exact e
 obtain ⟨j, hj, hjj⟩ := (h.q k).some hq
 simp only [Nat.add_sub_cancel] at hjj
 have hj3 : j = 3 - k := by
  by_cases e : j = 3 - k
  ·exact e
  ·exfalso
   obtain ⟨e1, e2⟩ := holT_at hh hk hj e
   rcases hjj with ⟨_, e3⟩ | ⟨_, e3⟩
   ·exact e3 e2
   ·exact e3 e1
 unfold G3
 by_cases hv : v + 1 = 2
 ·rw [if_pos hv]
  refine ⟨⟨by omega, ⟨(h.q 0).st 3, (h.q 1).st 2, (h.q 2).st 1, (h.q 3).st 0⟩, fun ⟨e0, e1, e2, e3⟩ => ?_⟩, by simp⟩
  rcases hjj with ⟨_, e⟩ | ⟨e, _⟩
  ·rw [hj3] at e
   match k, hk with
   | 0, _ => exact e e0
   | 1, _ => exact e e1
   | 2, _ => exact e e2
   | 3, _ => exact e e3
  ·omega
 ·rw [if_neg hv]
  refine ⟨⟨by omega, by omega, ⟨(h.q 0).q 3, (h.q 1).q 2, (h.q 2).q 1, (h.q 3).q 0⟩, fun ⟨e0, e1, e2, e3⟩ => ?_⟩, by simp⟩
  rcases hjj with ⟨e, _⟩ | ⟨_, e⟩
  ·omega
  ·rw [hj3] at e
   match k, hk with
   | 0, _ => exact e e0
   | 1, _ => exact e e1
   | 2, _ => exact e e2
   | 3, _ => exact e e3
theorem shrT_ok : ∀ (v : Nat) (t : QT), E6 v t → t ≠ .nil → E6 (EC v t).1 (EC v t).2 ∧ (EC v t).2 ≠ .nil ∧ QG (EC v t).2 = false
 | 0, t, hg, hn => by
  rcases hg.kind with h | ⟨h, _⟩ | ⟨h, _⟩
  ·exact absurd h hn
  ·omega
  ·omega
 | v + 1, t, hg, hn => by
  unfold EC
  cases hh : QG t with
  | true =>
   obtain ⟨r1, r2⟩ := Od hg hh
   simp only [if_true]
   exact shrT_ok v _ r1 r2
  | false => simp only [Bool.false_eq_true, if_false]; exact ⟨hg, hn, hh⟩
section
variable {L : List Nd}
theorem Rh (hl : Ar L = true) {v n k : Nat} (h0 : 0 < n) (h : Lv L (v + 1) n) (h1 : 1 < (Ak L n).lv) (hk : k < 4) : (sem L (v + 1) n).q k = sem L v ((Ak L n).kid k).toNat := by
 unfold sem
 simp only [GH, if_pos h1]
 split
 ·rename_i he
  have hem := KY hl h0 h.1
  rw [he] at hem
  have := List.all_eq_true.1 hem.symm k (by simpa using hk)
  simp only [Bool.or_eq_true, decide_eq_true_eq, Bool.and_eq_true] at this
  show QT.nil = _
  rcases this with e | ⟨_, e⟩
  ·rw [e]; exact (D8 L v).symm
  ·exact ((KI hl (Lv.kid hl h0 h h1 hk).1).2 e).symm
 ·match k, hk with
  | 0, _ => rfl
  | 1, _ => rfl
  | 2, _ => rfl
  | 3, _ => rfl
theorem sem_s1 (hl : Ar L = true) {v n k : Nat} (h0 : 0 < n) (h : Lv L (v + 1) n) (h1 : ¬ 1 < (Ak L n).lv) (hk : k < 4) : (sem L (v + 1) n).s k = (Ak L n).kid k := by
 unfold sem
 simp only [GH, if_neg h1]
 split
 ·rename_i he
  have hem := KY hl h0 h.1
  rw [he] at hem
  have := List.all_eq_true.1 hem.symm k (by simpa using hk)
  simp only [Bool.or_eq_true, decide_eq_true_eq, Bool.and_eq_true] at this
  rcases this with e | ⟨e, _⟩
  ·rw [e]; rfl
  ·exact absurd e h1
 ·match k, hk with
  | 0, _ => rfl
  | 1, _ => rfl
  | 2, _ => rfl
  | 3, _ => rfl
theorem hol_sem (hl : Ar L = true) {v n : Nat} (h0 : 0 < n) (h : Lv L v n) (he : (Ap L).getD n true = false) : Ck L n = QG (sem L v n) := by
 have hv0 : (Ak L (n : Int)).lv.toNat = v := by rcases h.2 with h | h <;> omega
 have hv1 : 1 ≤ (Ak L (n : Int)).lv := by
  obtain ⟨m, rfl⟩ : ∃ m, n = m + 1 := ⟨n - 1, by omega⟩
  rw [A6 h.1]; exact (Ax hl h.1).1
 obtain ⟨w, rfl⟩ : ∃ w, v = w + 1 := ⟨v - 1, by omega⟩
 unfold Ck QG
 by_cases h1 : 1 < (Ak L (n : Int)).lv
 ·have hnode : (sem L (w + 1) n).isNode = true := by
   unfold sem
   simp only [GH, he, Bool.false_eq_true, if_false, if_pos h1]; rfl
  have e2 : (2 : Int) ≤ (Ak L (n : Int)).lv := by omega
  rw [hnode, decide_eq_true (show n ≠ 0 by omega), decide_eq_true e2, Bool.true_and, Bool.true_and, Bool.true_and]
  unfold hol
  have hk : ∀ k, k < 4 → (decide ((Ak L n).kid k = 0) || (List.range 4).all (M2 L (Ap L) (Ak L n) k)) = (List.range 4).all fun j => decide (j = 3 - k) || (decide (((sem L (w + 1) n).q k).q j = .nil) && decide (((sem L (w + 1) n).q k).s j = 0)) := by
   intro k hk
   rw [Rh hl h0 h h1 hk]
   obtain ⟨g1, g2, g3⟩ := Lv.kid hl h0 h h1 hk
   by_cases hc : (Ak L n).kid k = 0
   ·rw [hc]
    have : (List.range 4).all (fun j => decide (j = 3 - k) || (decide ((sem L w ((0 : Int)).toNat).q j = .nil) && decide ((sem L w ((0 : Int)).toNat).s j = 0))) = true := by
     rw [show ((0 : Int)).toNat = 0 from rfl, D8, List.all_eq_true]
     intro j _
     simp [QT.q, QT.s]
    rw [this]; rfl
   ·rw [decide_eq_false hc, Bool.false_or]
    have hc0 : 0 < ((Ak L n).kid k).toNat := by omega
    have ec : (((Ak L n).kid k).toNat : Int) = (Ak L n).kid k := by omega
    have hcv : (Ak L (((Ak L n).kid k).toNat : Int)).lv.toNat = w := by rcases g1.2 with g | g <;> omega
    have hc1 : 1 ≤ (Ak L (((Ak L n).kid k).toNat : Int)).lv := by
     obtain ⟨m, hm⟩ : ∃ m, ((Ak L n).kid k).toNat = m + 1 := ⟨((Ak L n).kid k).toNat - 1, by omega⟩
     rw [hm]
     have hml : m < L.length := by have := g1.1; omega
     rw [A6 hml]; exact (Ax hl hml).1
    obtain ⟨u, rfl⟩ : ∃ u, w = u + 1 := ⟨w - 1, by omega⟩
    have pt : ∀ j, j < 4 → M2 L (Ap L) (Ak L n) k j = (decide (j = 3 - k) || (decide ((sem L (u + 1) ((Ak L n).kid k).toNat).q j = .nil) && decide ((sem L (u + 1) ((Ak L n).kid k).toNat).s j = 0))) := by
     intro j hj
     unfold M2
     congr 1
     by_cases h2 : (Ak L n).lv = 2
     ·rw [if_pos h2]
      have hn1 : ¬ 1 < (Ak L (((Ak L n).kid k).toNat : Int)).lv := by omega
      rw [sem_s1 hl hc0 g1 hn1 hj, ec]
      have hq : (sem L (u + 1) ((Ak L n).kid k).toNat).q j = .nil := by
       unfold sem
       simp only [GH, if_neg hn1]
       split <;> rfl
      rw [hq]; simp
     ·rw [if_neg h2]
      have hn1 : 1 < (Ak L (((Ak L n).kid k).toNat : Int)).lv := by omega
      obtain ⟨f1, f2, f3⟩ := Lv.kid hl hc0 g1 hn1 hj
      rw [Rh hl hc0 g1 hn1 hj, ec]
      rw [ec] at f1
      have hs : (sem L (u + 1) ((Ak L n).kid k).toNat).s j = 0 := by
       unfold sem
       simp only [GH, if_pos hn1]
       split <;> rfl
      rw [hs]
      have := KI hl f1
      rw [Bool.eq_iff_iff]
      simp only [decide_true, Bool.and_true, decide_eq_true_eq]
      exact this.symm
    rw [Fi, Fi, pt 0 (by omega), pt 1 (by omega), pt 2 (by omega), pt 3 (by omega)]
  rw [Fi, Fi (fun k => (List.range 4).all fun j => decide (j = 3 - k) || (decide (((sem L (w + 1) n).q k).q j = .nil) && decide (((sem L (w + 1) n).q k).s j = 0))), hk 0 (by omega), hk 1 (by omega), hk 2 (by omega), hk 3 (by omega)]
 ·have hnode : (sem L (w + 1) n).isNode = false := by
   unfold sem
   simp only [GH, he, Bool.false_eq_true, if_false, if_neg h1]; rfl
  have e2 : ¬ (2 : Int) ≤ (Ak L (n : Int)).lv := by omega
  rw [hnode, decide_eq_false e2]; simp

end
end Go.Gm
namespace Go.Gm
theorem Lv.num {L : List Nd} {v n : Nat} (h : Lv L v n) (h0 : 0 < n) (hl : Ar L = true) : (Ak L (n : Int)).lv = (v : Int) ∧ 1 ≤ v := by
 have hv : (Ak L (n : Int)).lv.toNat = v := by rcases h.2 with h | h <;> omega
 obtain ⟨m, rfl⟩ : ∃ m, n = m + 1 := ⟨n - 1, by omega⟩
 rw [A6 h.1] at hv ⊢
 have := (Ax hl h.1).1
 omega
theorem inn_sem {L : List Nd} (hl : Ar L = true) {w n : Nat} (h0 : 0 < n) (h : Lv L (w + 1) n) (he : (Ap L).getD n true = false) (hh : Ck L n = true) :
  Ar (L ++ [Bn L n]) = true ∧ Lv (L ++ [Bn L n]) w (L.length + 1) ∧ sem (L ++ [Bn L n]) w (L.length + 1) = G3 (w + 1) (sem L (w + 1) n) ∧ (Ap (L ++ [Bn L n])).getD (L.length + 1) true = false := by
 obtain ⟨hn1, hn2⟩ := GU hh
 obtain ⟨hlv, _⟩ := h.num h0 hl
 obtain ⟨u, rfl⟩ : ∃ u, w = u + 1 := ⟨w - 1, by omega⟩
 have h1 : 1 < (Ak L (n : Int)).lv := by omega
 have hl' : Ar (L ++ [Bn L n]) = true := by
  obtain ⟨m, rfl⟩ : ∃ m, n = m + 1 := ⟨n - 1, by omega⟩
  exact GT hl h.1 (by rw [A6 h.1] at hn2; exact hn2)
 have hx : Ak (L ++ [Bn L n]) ((L.length + 1 : Nat) : Int) = Bn L n := by rw [A6 (by simp)]; simp
 have hxl : (Bn L n).lv = (u + 1 : Nat) := by show (Ak L (n : Int)).lv - 1 = _; omega
 have hLv : Lv (L ++ [Bn L n]) (u + 1) (L.length + 1) := ⟨by simp, .inr (by rw [hx, hxl]; omega)⟩
 rw [hol_sem hl h0 h he] at hh
 obtain ⟨ig, inn⟩ := Od (JJ hl _ _ h) hh
 have hkid : ∀ k, k < 4 → (Bn L n).kid k = Fy L (Ak L n) k := fun k hk => Nn L n hk
 have hne : sem (L ++ [Bn L n]) (u + 1) (L.length + 1) = G3 (u + 1 + 1) (sem L (u + 1 + 1) n) := by
  by_cases hu : u = 0
  ·subst hu
   have hx1 : ¬ 1 < (Ak (L ++ [Bn L n]) ((L.length + 1 : Nat) : Int)).lv := by rw [hx, hxl]; decide
   have hs : ∀ k, k < 4 → (sem (L ++ [Bn L n]) 1 (L.length + 1)).s k = ((sem L 2 n).q k).s (3 - k) := by
    intro k hk
    rw [sem_s1 hl' (by omega) hLv hx1 hk, hx, hkid k hk, Rh hl h0 h h1 hk]
    unfold Fy
    obtain ⟨g1, g2, g3⟩ := Lv.kid hl h0 h h1 hk
    by_cases hc : (Ak L n).kid k = 0
    ·rw [if_pos hc, hc, show ((0 : Int)).toNat = 0 from rfl, D8]; rfl
    ·rw [if_neg hc]
     have hc0 : 0 < ((Ak L n).kid k).toNat := by omega
     obtain ⟨cl, _⟩ := g1.num hc0 hl
     rw [sem_s1 hl hc0 g1 (by omega) (by omega)]
     rw [show (((Ak L n).kid k).toNat : Int) = (Ak L n).kid k from by omega]
   have e : G3 2 (sem L 2 n) = .leaf ((sem (L ++ [Bn L n]) 1 (L.length + 1)).s 0) ((sem (L ++ [Bn L n]) 1 (L.length + 1)).s 1) ((sem (L ++ [Bn L n]) 1 (L.length + 1)).s 2) ((sem (L ++ [Bn L n]) 1 (L.length + 1)).s 3) := by
    rw [hs 0 (by omega), hs 1 (by omega), hs 2 (by omega), hs 3 (by omega)]; rfl
   have hg := JJ hl' 1 _ hLv
   rcases hg.kind with hk | ⟨_, _, a, b, c, d, hk⟩ | ⟨hk, _⟩
   ·exfalso
    rw [hk] at e
    rw [e] at ig
    exact ig.2.2 ⟨rfl, rfl, rfl, rfl⟩
   ·show sem (L ++ [Bn L n]) 1 (L.length + 1) = G3 2 (sem L 2 n)
    rw [e, hk]; rfl
   ·omega
  ·have hx1 : 1 < (Ak (L ++ [Bn L n]) ((L.length + 1 : Nat) : Int)).lv := by rw [hx, hxl]; omega
   have hs : ∀ k, k < 4 → (sem (L ++ [Bn L n]) (u + 1) (L.length + 1)).q k = ((sem L (u + 1 + 1) n).q k).q (3 - k) := by
    intro k hk
    rw [Rh hl' (by omega) hLv hx1 hk, hx, hkid k hk, Rh hl h0 h h1 hk]
    unfold Fy
    obtain ⟨g1, g2, g3⟩ := Lv.kid hl h0 h h1 hk
    by_cases hc : (Ak L n).kid k = 0
    ·rw [if_pos hc, hc, show ((0 : Int)).toNat = 0 from rfl, D8, D8]; rfl
    ·rw [if_neg hc]
     have hc0 : 0 < ((Ak L n).kid k).toNat := by omega
     obtain ⟨cl, _⟩ := g1.num hc0 hl
     have c1 : 1 < (Ak L (((Ak L n).kid k).toNat : Int)).lv := by omega
     have hk3 := (Lv.kid hl hc0 g1 c1 (show 3 - k < 4 by omega)).1
     rw [Rh hl hc0 g1 c1 (by omega)]
     rw [show (((Ak L n).kid k).toNat : Int) = (Ak L n).kid k from by omega] at hk3 ⊢
     exact Fv hl _ _ hk3
   have e : G3 (u + 1 + 1) (sem L (u + 1 + 1) n) = .node ((sem (L ++ [Bn L n]) (u + 1) (L.length + 1)).q 0) ((sem (L ++ [Bn L n]) (u + 1) (L.length + 1)).q 1) ((sem (L ++ [Bn L n]) (u + 1) (L.length + 1)).q 2) ((sem (L ++ [Bn L n]) (u + 1) (L.length + 1)).q 3) := by
    rw [hs 0 (by omega), hs 1 (by omega), hs 2 (by omega), hs 3 (by omega)]
    unfold G3
    rw [if_neg (by omega)]
   have hg := JJ hl' (u + 1) _ hLv
   rcases hg.kind with hk | ⟨hk, _⟩ | ⟨_, _, hk⟩
   ·exfalso
    rw [hk] at e
    rw [e] at ig
    exact ig.2.2.2 ⟨rfl, rfl, rfl, rfl⟩
   ·omega
   ·rw [e]; exact QT.eta hk
 refine ⟨hl', hLv, hne, ?_⟩
 cases hq : (Ap (L ++ [Bn L n])).getD (L.length + 1) true with
 | false => rfl
 | true =>
  have := (KI hl' hLv).2 hq
  rw [hne] at this
  exact absurd this inn
theorem NU : ∀ (v : Nat) (L : List Nd) (n : Nat), Ar L = true → 0 < n → Lv L v n → (Ap L).getD n true = false →
  Ar (AU v L n).1 = true ∧ Lv (AU v L n).1 (EC v (sem L v n)).1 (AU v L n).2 ∧ 0 < (AU v L n).2 ∧ sem (AU v L n).1 (EC v (sem L v n)).1 (AU v L n).2 = (EC v (sem L v n)).2
 | 0, L, n, hl, h0, hLv, he => by have := (hLv.num h0 hl).2; omega
 | v + 1, L, n, hl, h0, hLv, he => by
  have hs := hol_sem hl h0 hLv he
  unfold AU EC
  cases hh : Ck L n with
  | false =>
   rw [hh] at hs
   rw [← hs]
   exact ⟨hl, hLv, h0, rfl⟩
  | true =>
   rw [hh] at hs
   rw [← hs]
   obtain ⟨r1, r2, r3, r4⟩ := inn_sem hl h0 hLv he hh
   simp only [if_true]
   rw [← r3]
   exact NU v _ _ r1 (by omega) r2 r4
def CR (v : Nat) (t : QT) : List Nd := if t = .nil then [] else (AA (EC v t).1 (EC v t).2 []).1
theorem GY {L : List Nd} (hl : Ar L = true) {v n : Nat} (h : Lv L v n) : B7 L n = CR v (sem L v n) := by
 unfold B7 CR BT
 cases he : (Ap L).getD n true with
 | true =>
  rw [(KI hl h).2 he]
  simp only [if_true]
  cases (Ak L ((0 : Nat) : Int)).lv.toNat with
  | zero => rfl
  | succ w => simp only [AB, Cu, if_true]
 | false =>
  have h0 := KX he
  have hn : sem L v n ≠ .nil := fun e => by rw [(KI hl h).1 e] at he; cases he
  obtain ⟨hlv, hv1⟩ := h.num h0 hl
  obtain ⟨r1, r2, r3, r4⟩ := NU v L n hl h0 h he
  rw [if_neg hn]
  have hv : (Ak L (n : Int)).lv.toNat = v := by omega
  simp only [Bool.false_eq_true, if_false, hv]
  have hlv2 := (r2.num r3 r1).1
  rw [show (Ak (AU v L n).1 ((AU v L n).2 : Int)).lv.toNat = (EC v (sem L v n)).1 from by omega, insF_sem r1 _ _ _ r2, r4]
theorem nodup_dup {L : List Nd} (h : Ex L) : dupB L = true := by
 unfold dupB
 rw [List.all_eq_true]
 intro i hi
 have hi' : i < L.length := by simpa using hi
 rw [h.ne (i + 1) (by omega) (by omega)]
 simp only [Bool.not_false, Bool.true_and, List.all_eq_true, decide_eq_true_eq]
 intro k hk
 have hk' : k < i := by simpa using hk
 simp only [List.getD_eq_getElem?_getD, List.getElem?_eq_getElem hi', List.getElem?_eq_getElem (show k < L.length by omega), Option.getD_some]
 intro e
 exact (List.pairwise_iff_getElem.1 h.nd) k i (by omega) hi' hk' e.symm
def Lf (n : Nat) : List Nat := (List.range n).map (· + 1)
theorem QU (n : Nat) : Lf (n + 1) = Lf n ++ [n + 1] := by simp [Lf, List.range_succ]
theorem Mu {n i : Nat} : i ∈ Lf n ↔ 1 ≤ i ∧ i ≤ n := by
 simp only [Lf, List.mem_map, List.mem_range]
 constructor
 ·rintro ⟨j, h1, h2⟩; omega
 ·intro h; exact ⟨i - 1, by omega, by omega⟩
theorem endK_4 (rec : Nat → List Nat → List Nat) (x : Nd) (out : List Nat) : K2 rec x 4 out =
  (if 1 < x.lv ∧ 0 < x.k3 then rec x.k3.toNat (if 1 < x.lv ∧ 0 < x.k2 then rec x.k2.toNat (if 1 < x.lv ∧ 0 < x.k1 then rec x.k1.toNat (if 1 < x.lv ∧ 0 < x.k0 then rec x.k0.toNat out else out) else (if 1 < x.lv ∧ 0 < x.k0 then rec x.k0.toNat out else out)) else (if 1 < x.lv ∧ 0 < x.k1 then rec x.k1.toNat (if 1 < x.lv ∧ 0 < x.k0 then rec x.k0.toNat out else out) else (if 1 < x.lv ∧ 0 < x.k0 then rec x.k0.toNat out else out))) else (if 1 < x.lv ∧ 0 < x.k2 then rec x.k2.toNat (if 1 < x.lv ∧ 0 < x.k1 then rec x.k1.toNat (if 1 < x.lv ∧ 0 < x.k0 then rec x.k0.toNat out else out) else (if 1 < x.lv ∧ 0 < x.k0 then rec x.k0.toNat out else out)) else (if 1 < x.lv ∧ 0 < x.k1 then rec x.k1.toNat (if 1 < x.lv ∧ 0 < x.k0 then rec x.k0.toNat out else out) else (if 1 < x.lv ∧ 0 < x.k0 then rec x.k0.toNat out else out)))) := by
 simp only [NB, Nd.kid, show K2 rec x 0 out = out from rfl]
theorem M1 {v : Nat} {t : QT} {out : List Nd} (h : t ≠ .nil) : 0 < (AA v t out).2 := by
 cases t with
 | nil => exact absurd rfl h
 | leaf a b c d => exact JN _ _
 | node a b c d => exact JN _ _
theorem MB : ∀ (t : QT) (v : Nat) (out s L : List Nd), E6 v t → t ≠ .nil → Ex out → L = (AA v t out).1 ++ s → DP L v (AA v t out).2 (Lf out.length) = Lf (AA v t out).1.length
 | .nil, v, out, s, L, hg, hn, hc, hL => absurd rfl hn
 | .leaf a b c d, v, out, s, L, hg, hn, hc, hL => by
  have hi := Dh (.leaf a b c d) v out hg hc
  have hp := M1 (v := v) (out := out) hn
  obtain ⟨rfl, _, _⟩ := hg
  by_cases hle : (AA 1 (.leaf a b c d) out).2 ≤ out.length
  ·have := hi.old hle
   simp only [DP]
   rw [if_pos (Mu.2 ⟨hp, hle⟩), this]
  ·have hnew := hi.new (by omega)
   have hform : (AA 1 (.leaf a b c d) out).1.length = out.length + 1 := by
    have h1 : AA 1 (.leaf a b c d) out = AS out ⟨1, a, b, c, d⟩ := rfl
    rw [h1] at hle ⊢
    unfold AS at hle ⊢
    split
    ·simp
    ·rename_i hf; rw [if_neg hf] at hle; exact absurd (findN_le _ _) hle
   have hx : ¬ 1 < (Ak L ((AA 1 (.leaf a b c d) out).2 : Int)).lv := by
    rw [hL, Kn hp (by omega)]
    intro h
    have := hi.lv.num hp hi.cl.lo
    omega
   simp only [DP]
   rw [if_neg (fun h => by have := Mu.1 h; omega), endK_4]
   simp only [hx, false_and, if_false]
   rw [hform, QU, hnew, hform]
 | .node a b c d, v, out, s, L, hg, hn, hc, hL => by
  have hi := Dh (.node a b c d) v out hg hc
  have hp := M1 (v := v) (out := out) hn
  obtain ⟨h2, hv, ⟨ga, gb, gc, gd⟩, hne⟩ := hg
  obtain ⟨w, rfl⟩ : ∃ w, v = w + 1 := ⟨v - 1, by omega⟩
  by_cases hle : (AA (w + 1) (.node a b c d) out).2 ≤ out.length
  ·have := hi.old hle
   simp only [DP]
   rw [if_pos (Mu.2 ⟨hp, hle⟩), this]
  ·have hnew := hi.new (by omega)
   have ga : E6 w a := ga
   have gb : E6 w b := gb
   have gc : E6 w c := gc
   have gd : E6 w d := gd
   have ia := Dh a w out ga hc
   have ib := Dh b w _ gb ia.cl
   have ic := Dh c w _ gc ib.cl
   have id := Dh d w _ gd ic.cl
   have hform : AA (w + 1) (.node a b c d) out = AS (AA w d (AA w c (AA w b (AA w a out).1).1).1).1 ⟨(w + 1 : Nat), (AA w a out).2, (AA w b (AA w a out).1).2, (AA w c (AA w b (AA w a out).1).1).2, (AA w d (AA w c (AA w b (AA w a out).1).1).1).2⟩ := rfl
   obtain ⟨ra, ea, _⟩ := ia.pre
   obtain ⟨rb, eb, _⟩ := ib.pre
   obtain ⟨rc, ec, _⟩ := ic.pre
   obtain ⟨rd, ed, _⟩ := id.pre
   have hput : (AA (w + 1) (.node a b c d) out).1 = (AA w d (AA w c (AA w b (AA w a out).1).1).1).1 ++ [⟨(w + 1 : Nat), (AA w a out).2, (AA w b (AA w a out).1).2, (AA w c (AA w b (AA w a out).1).1).2, (AA w d (AA w c (AA w b (AA w a out).1).1).1).2⟩] := by
    rw [hform] at hle hnew ⊢
    unfold AS at hle hnew ⊢
    split
    ·rfl
    ·rename_i hf
     exfalso
     rw [if_neg hf] at hle hnew
     dsimp only at hle hnew
     cases hfn : Bx (AA w d (AA w c (AA w b (AA w a out).1).1).1).1 ⟨(w + 1 : Nat), (AA w a out).2, (AA w b (AA w a out).1).2, (AA w c (AA w b (AA w a out).1).1).2, (AA w d (AA w c (AA w b (AA w a out).1).1).1).2⟩ with
     | zero => exact hf hfn
     | succ i =>
      rw [hfn] at hle
      have h3 := (CC.1 hfn).1
      obtain ⟨r1, e1, w1⟩ := ia.pre
      obtain ⟨r2, e2, w2⟩ := ib.pre
      obtain ⟨r3, e3, w3⟩ := ic.pre
      obtain ⟨r4, e4, w4⟩ := id.pre
      have hout : (AA w d (AA w c (AA w b (AA w a out).1).1).1).1 = out ++ (r1 ++ r2 ++ r3 ++ r4) := by
       conv => lhs; rw [e4]
       conv => lhs; arg 1; rw [e3]
       conv => lhs; arg 1; arg 1; rw [e2]
       conv => lhs; arg 1; arg 1; arg 1; rw [e1]
       simp
      rw [hout, List.getElem?_append_right (by omega)] at h3
      have hm := List.mem_of_getElem? h3
      have : ((w + 1 : Nat) : Int) ≤ (w : Int) := by
       simp only [List.mem_append] at hm
       rcases hm with ((hm | hm) | hm) | hm
       ·exact w1 _ hm
       ·exact w2 _ hm
       ·exact w3 _ hm
       ·exact w4 _ hm
      omega
   have hlast : Ak L ((AA (w + 1) (.node a b c d) out).2 : Int) = ⟨(w + 1 : Nat), (AA w a out).2, (AA w b (AA w a out).1).2, (AA w c (AA w b (AA w a out).1).1).2, (AA w d (AA w c (AA w b (AA w a out).1).1).1).2⟩ := by
    rw [hL, Kn hp (by omega), hnew, hput]
    simp only [List.length_append, List.length_singleton]
    rw [A6 (by simp)]; simp
   have step : ∀ (t : QT) (o : List Nd) (s' : List Nd), E6 w t → Ex o → L = (AA w t o).1 ++ s' → (∀ (out s L : List Nd), E6 w t → t ≠ .nil → Ex out → L = (AA w t out).1 ++ s → DP L w (AA w t out).2 (Lf out.length) = Lf (AA w t out).1.length) →
     (if 1 < ((w + 1 : Nat) : Int) ∧ 0 < ((AA w t o).2 : Int) then DP L w ((AA w t o).2 : Int).toNat (Lf o.length) else Lf o.length) = Lf (AA w t o).1.length := by
    intro t o s' gt hco hLo ih
    by_cases ht : t = .nil
    ·subst ht; simp [AA]
    ·have hp' := M1 (v := w) (out := o) ht
     rw [if_pos ⟨by omega, by omega⟩, Int.toNat_natCast]
     exact ih o s' L gt ht hco hLo
   have hLd : L = (AA w d (AA w c (AA w b (AA w a out).1).1).1).1 ++ ([⟨(w + 1 : Nat), (AA w a out).2, (AA w b (AA w a out).1).2, (AA w c (AA w b (AA w a out).1).1).2, (AA w d (AA w c (AA w b (AA w a out).1).1).1).2⟩] ++ s) := by rw [hL, hput]; simp
   have hLc := hLd
   conv at hLc => rhs; arg 1; rw [ed]
   rw [List.append_assoc] at hLc
   have hLb := hLc
   conv at hLb => rhs; arg 1; rw [ec]
   rw [List.append_assoc] at hLb
   have hLa := hLb
   conv at hLa => rhs; arg 1; rw [eb]
   rw [List.append_assoc] at hLa
   have sa := step a out _ ga hc hLa (fun o s L => MB a w o s L)
   have sb := step b _ _ gb ia.cl hLb (fun o s L => MB b w o s L)
   have sc := step c _ _ gc ib.cl hLc (fun o s L => MB c w o s L)
   have sd := step d _ _ gd ic.cl hLd (fun o s L => MB d w o s L)
   simp only [DP]
   rw [if_neg (fun h => by have := Mu.1 h; omega), hlast, endK_4]
   dsimp only
   rw [sa, sb, sc, sd, hnew, hput]
   simp only [List.length_append, List.length_singleton, QU]
theorem canonT_right {v : Nat} {t : QT} (hg : E6 v t) : CU (CR v t) = true ∧ (t ≠ .nil → Ex (CR v t) ∧ 0 < (CR v t).length ∧ Lv (CR v t) (EC v t).1 (CR v t).length ∧ sem (CR v t) (EC v t).1 (CR v t).length = (EC v t).2) := by
 by_cases hn : t = .nil
 ·subst hn; exact ⟨by simp [CR, CU], fun h => absurd rfl h⟩
 ·obtain ⟨s1, s2, s3⟩ := shrT_ok v t hg hn
  have e : CR v t = (AA (EC v t).1 (EC v t).2 []).1 := by unfold CR; rw [if_neg hn]
  rw [e]
  generalize EC v t = vt at s1 s2 s3
  obtain ⟨w, u⟩ := vt
  dsimp only at s1 s2 s3 ⊢
  have hi := Dh u w [] s1 Ex.nil
  have hp := M1 (v := w) (out := []) s2
  have hnew := hi.new (by simpa using hp)
  have hend := MB u w [] [] _ s1 s2 Ex.nil (List.append_nil _).symm
  have hlv := hi.lv
  have hsm := hi.sm
  rw [hnew] at hlv hsm hp hend
  generalize (AA w u []).1 = Q at *
  have hcl := hi.cl
  obtain ⟨q1, q2⟩ := hlv.num hp hcl.lo
  refine ⟨?_, fun _ => ⟨hcl, hp, hlv, hsm⟩⟩
  have hne : Q ≠ [] := fun h => by rw [h] at hp; simp at hp
  have htop : (D6 Q).toNat = w := by unfold D6; omega
  have hord : LH Q = Lf Q.length := by unfold LH; rw [htop]; exact hend
  unfold CU
  rw [hcl.lo, hol_sem hcl.lo hp hlv (hcl.ne _ hp (Nat.le_refl _)), hsm, s3, nodup_dup hcl]
  have : Na Q = true := by
   unfold Na
   rw [hord]
   have hlen : (Lf Q.length).length = Q.length := by simp [Lf]
   simp only [hlen, decide_true, Bool.and_true, List.all_eq_true, decide_eq_true_eq]
   intro i hi
   have hi' : i < Q.length := by simpa using hi
   simp [Lf, List.getD_eq_getElem?_getD, hi']
  rw [this]; simp [hne]
end Go.Gm
namespace Go.Gm
end Go.Gm
namespace Go.Gm
end Go.Gm
namespace Go.Gm
def maxK (m : Int) (x : Nd) : Nat → Int
 | 0 => m
 | k + 1 => max (maxK m x k) (x.kid k)
def Ko (L : List Nd) : Int := L.foldl (fun m x => if x.lv = 1 then maxK m x 4 else m) 0
theorem OI (L : List Nd) : Lm L = .agg [.sl (enL cNd L) .no] := rfl
theorem boxQ (L : List Nd) (H : Ab) : Et true 1 (Lm L) H = some (.ptr H.length 0 0, H ++ [.cel 0 (De L)]) := Gw rfl rfl
section
variable {H : Ab} {p : Nat} {L : List Nd}
theorem DW (hg : H[p]? = some (.cel 0 (De L))) : Ad false 1 (.ptr p 0 0) H = some (.sl (enL cNd L) .no) := by
 simp only [Ad, Ba hg, Option.bind_some]; rfl
theorem OK (hg : H[p]? = some (.cel 0 (De L))) : Ad true 1 (.ptr p 0 0) H = some (Lm L) := by
 simp only [Ad, Ba hg, Option.bind_some]; rfl

end
theorem q08_most (L : List Nd) (H : Ab) (hL : L.length < 1152921504606846976) : Sh.f13 (Lm L) H = some (.ret (.int .u8 (IntKind.u8.wrap (Ko L))), H) := by
 unfold Sh.f13
 have e1 : (H ++ [Blk.cel 0 (De L)])[H.length]? = some (.cel 0 (De L)) := A9
 simp only [GMb, GMc, boxQ]
 refine BQ (G := fun rec1 vs H1 => Sh.f3p H rec1 (ag vs 0) (ag vs 1) (ag vs 2) H1) L.length (fun i => [.ptr H.length 0 0, .int .i64 (Ko (L.take i)), .int .i64 (i : Int)]) (fun _ => H ++ [.cel 0 (De L)]) _ hL (fun rec i hi => ?_) (fun rec => ?_)
 ·have hi' : (i : Int) < (L.length : Int) := by omega
  have hws := Av (show i < 9223372036854775807 by omega)
  have hm : Ko (L.take (i + 1)) = if L[i].lv = 1 then maxK (Ko (L.take i)) L[i] 4 else Ko (L.take i) := by
   unfold Ko
   rw [List.take_succ_eq_append_getElem hi, List.foldl_append]; rfl
  rw [hm]
  generalize Ko (L.take i) = m
  unfold Sh.f3p
  simp only [GMb, GMc, Ah, Nat.zero_add, DW e1, A2, hi']
  by_cases hlv : L[i].lv = 1
  ·rw [if_pos hlv]
   refine BQ (G := fun rec2 vs H1 => Sh.f2o H rec rec2 (ag vs 0) (ag vs 1) (ag vs 2) (ag vs 3) H1) 4 (fun k => [.ptr H.length 0 0, .int .i64 (maxK m L[i] k), .int .i64 (i : Int), .int .i64 (k : Int)]) (fun _ => H ++ [.cel 0 (De L)]) _ (by decide) (fun rec2 k hk => ?_) (fun rec2 => ?_)
   ·have hk' : (k : Int) < 4 := by omega
    unfold Sh.f2o
    simp only [GMb, GMc, Ai, Ah, Au, Nat.zero_add, Nat.add_zero, Nat.mul_one, Bd, hk', DW e1, Aw hi, hlv, CB hk, Cy hk, max_int, Av (show k < 9223372036854775807 by omega), maxK]
   ·have hf : ¬ (((4 : Nat) : Int) < 4) := by decide
    unfold Sh.f2o
    simp only [GMb, GMc, hf, hws]
  ·rw [if_neg hlv, Rr fuel_pos]
   have hf : ((0 : Int) < 4) := by decide
   unfold Sh.f2o
   simp only [GMb, GMc, Ai, Ah, Au, Nat.zero_add, Nat.add_zero, Nat.mul_one, Bd, hf, DW e1, Aw hi, hlv, hws]
 ·unfold Sh.f3p
  rw [List.take_of_length_le (Nat.le_refl _)]
  simp only [GMb, GMc, Ah, Nat.zero_add, DW e1, A2, Int.lt_irrefl, BN, Pt]
theorem maxK_st {m : Int} {x : Nd} (hm : St m) (hx : ∀ k, k < 4 → St (x.kid k)) : ∀ k, k ≤ 4 → St (maxK m x k)
 | 0, _ => hm
 | k + 1, h => by
  have h1 := maxK_st hm hx k (by omega)
  have h2 := hx k (by omega)
  obtain ⟨a1, a2⟩ := h1
  obtain ⟨b1, b2⟩ := h2
  exact ⟨show (0 : Int) ≤ max (maxK m x k) (x.kid k) by omega, show max (maxK m x k) (x.kid k) ≤ (255 : Int) by omega⟩
theorem mostZ_st {L : List Nd} (hl : Ar L = true) : St (Ko L) := by
 have key : ∀ (l : List Nd) (m : Int), St m → (∀ x ∈ l, x.lv = 1 → ∀ k, k < 4 → St (x.kid k)) → St (l.foldl (fun m x => if x.lv = 1 then maxK m x 4 else m) m) := by
  intro l
  induction l with
  | nil => intro m hm _; exact hm
  | cons a l ih =>
   intro m hm hx
   refine ih _ ?_ fun x h => hx x (by simp [h])
   dsimp only
   split
   ·rename_i h; exact maxK_st hm (hx a (by simp) h) 4 (Nat.le_refl _)
   ·exact hm
 refine key L 0 ⟨Int.le_refl _, by decide⟩ fun x hx hlv k hk => ?_
 obtain ⟨i, hi, rfl⟩ := List.getElem_of_mem hx
 have := (Ax hl hi).2.2 k hk
 exact ⟨this.1, this.2.1 hlv⟩
theorem q08_mostZ {L : List Nd} (H : Ab) (hL : L.length < 1152921504606846976) (hl : Ar L = true) : Sh.f13 (Lm L) H = some (.ret (.int .u8 (Ko L)), H) := by
 have := mostZ_st hl
 rw [q08_most L H hL, wrap_u8 this.1 (by have := this.2; omega)]
end Go.Gm
namespace Go.Gm
theorem q05_nodes (A B : List Nd) (t t' : Tok) (H : Ab) (hA : A.length < 1000000000000) : Sh.f2g (.sl (enL cNd A) t) (.sl (enL cNd B) t') H = some (.ret (.bool (decide (A = B))), H) := by
 unfold Sh.f2g
 simp only [GMb, GMc, A2]
 by_cases hl : A.length = B.length
 ·have hd : decide ((A.length : Int) = (B.length : Int)) = true := decide_eq_true (by omega)
  simp only [GMb, GMc, hd]
  have key := Br (G := fun rec1 vs H1 => Sh.f4u H rec1 (ag vs 0) (ag vs 1) (ag vs 2) H1) (σ := Nat) (fun i => i ≤ A.length)
   (fun i => [.sl (enL cNd A) t, .sl (enL cNd B) t', .int .i64 (i : Int)]) (fun _ => H) (fun i => A.length - i) (fun i => some (.ret (.bool (decide (A.drop i = B.drop i))), H)) (fun i rec hi hrec => ?_) 0 (Nat.zero_le _) (by omega)
  ·simpa using key
  ·unfold Sh.f4u
   by_cases h : i < A.length
   ·have h' : i < B.length := by omega
    have hlt : (i : Int) < (A.length : Int) := by omega
    have hw := Av (show i < 9223372036854775807 by omega)
    have := hrec (i + 1) h (by omega)
    rw [List.drop_eq_getElem_cons h, List.drop_eq_getElem_cons h']
    simp only [GMb, GMc, Ay, A2, hlt, Aw h, Aw h', Fw, neq_nd, hw]
    by_cases he : A[i] = B[i]
    ·simp only [he, GMb, GMc, List.cons.injEq, true_and]
     exact this
    ·simp only [he, GMb, GMc, List.cons.injEq, false_and]
   ·have hlt : ¬ (i : Int) < (A.length : Int) := by omega
    rw [List.drop_eq_nil_of_le (by omega), List.drop_eq_nil_of_le (by omega)]
    simp only [GMb, GMc, Ay, A2, hlt]
 ·have hd : decide ((A.length : Int) = (B.length : Int)) = false := decide_eq_false (by omega)
  have hne : decide (A = B) = false := decide_eq_false fun h => hl (by rw [h])
  simp only [GMb, GMc, hd, hne]
theorem q05_same (A B : List Nd) (H : Ab) (hA : A.length < 1000000000000) : Sh.fp (.agg [.sl (enL cNd A) .no]) (.agg [.sl (enL cNd B) .no]) H = some (.ret (.bool (decide (A = B))), H) := by
 unfold Sh.fp
 simp only [GMb, GMc, HPa, HPc, HPd, HPe, HPz, Nat.reduceAdd, Nat.reduceLT, q05_nodes A B .no .no _ hA]
end Go.Gm
namespace Go.Gm
def Lx (H : Ab) (p : Nat) (b : List UInt8) (a : Nat) (r : List Aa) : Prop := H[p]? = some (.cel 0 (.str b :: .int .i64 (a : Int) :: r))
theorem QE {H : Ab} {p a : Nat} {b : List UInt8} {r : List Aa} (h : Lx H p b a r) : Ad false 1 (.ptr p 0 0) H = some (.str b) := by
 simp only [Ad, Ba h, Option.bind]; rfl
theorem Dv {H : Ab} {p a : Nat} {b : List UInt8} {r : List Aa} (h : Lx H p b a r) : Ad false 1 (.ptr p 0 1) H = some (.int .i64 (a : Int)) := by
 simp only [Ad, Ba h, Option.bind]; rfl
theorem GO {H : Ab} {p a : Nat} {b : List UInt8} {r : List Aa} (h : Lx H p b a r) : Sh.f2 (.ptr p 0 0) H = some (.ret (.bool (decide (a = b.length))), H) := by
 unfold Sh.f2
 simp only [GMb, GMc, Ae, Ah, Nat.zero_add, QE h, Dv h]
 by_cases e : a = b.length
 ·have e' : (a : Int) = (b.length : Int) := by omega
  simp [e, e']
 ·have e' : ¬ (a : Int) = (b.length : Int) := by omega
  simp [e, e']
def Qa (e : Int) (s : List UInt8) : Aa := .iface EN (.agg [.int .i64 e, .str s])
theorem KM {H : Ab} {p a : Nat} {b : List UInt8} {r : List Aa} (h : Lx H p b a r) (s : List UInt8) : Sh.f1 (.ptr p 0 0) (.str s) H = some (.pan (if a = b.length then Qa 3 s else Qa 2 []), H) := by
 unfold Sh.f1
 simp only [GMb, GMc, GO h]
 by_cases e : a = b.length
 ·simp only [e, GMb, GMc]
  rfl
 ·simp only [e, GMb, GMc]
  rfl
theorem lx_limit {H : Ab} (x : Aa) : Sh.f6 x H = some (.pan (Qa 4 []), H) := rfl
theorem Rz (l : List UInt8) (c : UInt8) : (0 ≤ Lib.indexByte l c) ↔ c ∈ l := by
 induction l with
 | nil => simp [Lib.indexByte]
 | cons b l ih =>
  have hge := Lib.indexByte_ge l c
  unfold Lib.indexByte
  by_cases h : b = c
  ·simp [h]
  ·have h' : ¬ c = b := fun e => h e.symm
   by_cases h2 : Lib.indexByte l c = -1
   ·have : ¬ c ∈ l := fun hm => by have := ih.2 hm; omega
    simp [h, h', h2, this]
   ·have h3 : 0 ≤ Lib.indexByte l c := by omega
    have h4 := ih.1 h3
    simp [h, h2, h4]
    omega
def A8 (b : List UInt8) (a : Nat) (some : List UInt8) : Bool := match b[a]? with
 | none => false
 | Option.some c => some.contains c
theorem BW {H : Ab} {p a : Nat} {b : List UInt8} {r : List Aa} (h : Lx H p b a r) (ha : a ≤ b.length) (s : List UInt8) : Sh.f0 (.ptr p 0 0) (.str s) H = some (.ret (.bool (A8 b a s)), H) := by
 unfold Sh.f0 A8
 simp only [GMb, GMc, GO h]
 by_cases e : a = b.length
 ·simp only [e, GMb, GMc]
  rw [List.getElem?_eq_none (Nat.le_refl _)]
 ·have hlt : a < b.length := by omega
  rw [List.getElem?_eq_getElem hlt]
  have hi : Sh.f18 (.str s) (.int .u8 (b[a].toNat : Int)) H = some (.ret (.int .i64 (Lib.indexByte s b[a])), H) := by
   unfold Sh.f18; simp
  simp only [e, GMb, GMc, Ae, Ah, Nat.zero_add, QE h, Dv h, Gr hlt, hi]
  by_cases hm : b[a] ∈ s
  ·have := (Rz s b[a]).2 hm
   simp [hm, this]
  ·have : ¬ 0 ≤ Lib.indexByte s b[a] := fun hc => hm ((Rz s b[a]).1 hc)
   simp [hm, this]
theorem lx_step {H : Ab} {p a : Nat} {b : List UInt8} {r : List Aa} (h : Lx H p b a r) (n : Int) : Al 1 (.ptr p 0 1) (.int .i64 n) H = some (H.set p (.cel 0 (.str b :: .int .i64 n :: r))) := by
 simp only [Al, Ba h, Option.bind, Aa.acells]
 simp [CI h, DI]
theorem lx_set {H : Ab} {p a a' : Nat} {b : List UInt8} {r : List Aa} (h : Lx H p b a r) : Lx (H.set p (.cel 0 (.str b :: .int .i64 (a' : Int) :: r))) p b a' r := by
 have : p < H.length := by
  rcases Nat.lt_or_ge p H.length with h' | h'
  ·exact h'
  ·unfold Lx at h; rw [List.getElem?_eq_none h'] at h; cases h
 unfold Lx; simp [this]
end Go.Gm
namespace Go.Gm
def AJ (H : Ab) (p : Nat) (b : List UInt8) (r : List Aa) (a : Nat) : Ab := H.set p (.cel 0 (.str b :: .int .i64 (a : Int) :: r))
theorem BC {H : Ab} {p a : Nat} {b : List UInt8} {r : List Aa} (h : Lx H p b a r) : AJ H p b r a = H := by
 unfold AJ
 apply List.ext_getElem?
 intro i
 by_cases e : p = i
 ·subst e
  have : p < H.length := by
   rcases Nat.lt_or_ge p H.length with h' | h'
   ·exact h'
   ·unfold Lx at h; rw [List.getElem?_eq_none h'] at h; cases h
  rw [List.getElem?_set_self this]; exact h.symm
 ·rw [List.getElem?_set_ne e]
theorem C6 {H : Ab} {p a a' : Nat} {b : List UInt8} {r : List Aa} (h : Lx H p b a r) : Lx (AJ H p b r a') p b a' r := lx_set h
theorem KH (H : Ab) (p a a' : Nat) (b : List UInt8) (r r' : List Aa) : AJ (AJ H p b r a) p b r' a' = AJ H p b r' a' := by unfold AJ; rw [List.set_set]
theorem FE (H : Ab) (p a : Nat) (b : List UInt8) (r : List Aa) : (AJ H p b r a).length = H.length := by unfold AJ; simp
theorem EO {H : Ab} {p a a' : Nat} {b : List UInt8} {r : List Aa} (h : Lx H p b a r) (n : Nat) : Al 1 (.ptr p 0 1) (.int .i64 (n : Int)) (AJ H p b r a') = some (AJ H p b r n) := by
 rw [lx_step (C6 h)]
 exact congrArg some (KH H p a' n b r r)
def Ff (b : List UInt8) (a : Nat) : Nat := a + ((b.drop a).takeWhile fun c => !([13, 10] : List UInt8).contains c).length
theorem anyN_step {b : List UInt8} {a : Nat} (h : a < b.length) : Ff b a = if A8 b a [13, 10] then a else Ff b (a + 1) := by
 unfold Ff A8
 rw [List.getElem?_eq_getElem h, List.drop_eq_getElem_cons h, List.takeWhile_cons]
 cases hc : ([13, 10] : List UInt8).contains b[a] with
 | true => simp only [hc, Bool.not_true, if_true, if_false, Bool.false_eq_true, List.length_nil, Nat.add_zero]
 | false => simp only [hc, Bool.not_false, if_true, if_false, Bool.false_eq_true, List.length_cons]; omega
theorem anyN_end {b : List UInt8} : Ff b b.length = b.length := by simp [Ff]
theorem lx_any {H : Ab} {p a : Nat} {b : List UInt8} {r : List Aa} (h : Lx H p b a r) (ha : a ≤ b.length) (hb : b.length < 1152921504606846976) :
  Sh.fq (.ptr p 0 0) H = some (.ret (.tup []), AJ H p b r (Ff b a)) := by
 unfold Sh.fq
 have key := Br (G := fun rec1 vs H1 => Sh.f42 H rec1 (ag vs 0) H1) (σ := Nat) (fun i => i ≤ b.length) (fun _ => [.ptr p 0 0]) (fun i => AJ H p b r i) (fun i => b.length - i)
  (fun i => some (.ret (.tup []), AJ H p b r (Ff b i))) (fun i rec hi hrec => ?_) a ha (by omega)
 ·rw [BC h] at key; exact key
 ·unfold Sh.f42
  have hx := C6 (a' := i) h
  simp only [GMb, GMc, GO hx]
  by_cases e : i = b.length
  ·simp only [e, GMb, GMc, anyN_end]
  ·have hlt : i < b.length := by omega
   simp only [e, GMb, GMc, BW hx hi]
   rw [anyN_step hlt]
   cases hc : A8 b i [13, 10] with
   | true => simp only [GMb, GMc, Bool.not_true]
   | false =>
    simp only [GMb, GMc, Bool.not_false, Ae, Ah, Nat.zero_add, Dv hx, Av (show i < 9223372036854775807 by omega), EO h]
    exact hrec (i + 1) (by omega) (by omega)
def NS (b : List UInt8) (a : Nat) (s : List UInt8) : Aa := if a = b.length then Qa 3 s else Qa 2 []
def crN (b : List UInt8) (a : Nat) : Nat := if A8 b a [13] then a + 1 else a
theorem Cr {b s : List UInt8} {a : Nat} (h : A8 b a s = true) : a < b.length := by
 rcases Nat.lt_or_ge a b.length with h' | h'
 ·exact h'
 ·unfold A8 at h; rw [List.getElem?_eq_none h'] at h; cases h
theorem crN_le {b : List UInt8} {a : Nat} (ha : a ≤ b.length) : crN b a ≤ b.length := by
 unfold crN
 cases hs : A8 b a [13] with
 | true => exact Cr hs
 | false => exact ha
def endO (H : Ab) (p : Nat) (b : List UInt8) (r : List Aa) (a : Nat) (rest : List UInt8) : Out :=
 if a = b.length then some (.ret (.tup []), H)
 else if A8 b (crN b a) [10] then some (.ret (.tup []), AJ H p b r (crN b a + 1))
 else some (.pan (NS b (crN b a) (10 :: rest)), AJ H p b r (crN b a))
theorem lx_end {H : Ab} {p a : Nat} {b : List UInt8} {r : List Aa} (h : Lx H p b a r) (ha : a ≤ b.length) (hb : b.length < 1152921504606846976) (rest : List UInt8) (hr : rest.length ≤ 1000000) :
  Sh.fg (.ptr p 0 0) (.str rest) H = endO H p b r a rest := by
 unfold Sh.fg endO
 simp only [GMb, GMc, GO h]
 by_cases e : a = b.length
 ·simp only [e, GMb, GMc]
 ·have key : ∀ c, c ≤ b.length → Sh.f43 H (.ptr p 0 0) (.str rest) (AJ H p b r c) = if A8 b c [10] then some (.ret (.tup []), AJ H p b r (c + 1)) else some (.pan (NS b c (10 :: rest)), AJ H p b r c) := by
   intro c hc
   have hx := C6 (a' := c) h
   unfold Sh.f43
   simp only [GMb, GMc, BW hx hc]
   cases hs : A8 b c [10] with
   | true =>
    unfold Sh.f4w
    simp only [GMb, GMc, Bool.not_true, Ae, Ah, Nat.zero_add, Dv hx, Av (show c < 9223372036854775807 by omega), EO h]
   | false =>
    have hcat : Af .none .add (.str [10]) (.str rest) = some (.str (10 :: rest)) := AV (by simp only [List.length_cons, List.length_nil]; omega)
    simp only [GMb, GMc, Bool.not_false, hcat, KM hx]
    rfl
  simp only [e, GMb, GMc, BW h ha, AN]
  unfold crN
  cases hs : A8 b a [13] with
  | true =>
   have hlt : a < b.length := by omega
   have hm := EO (a' := a) h (a + 1)
   rw [BC h] at hm
   simp only [GMb, GMc, Ae, Ah, Nat.zero_add, Dv h, Av (show a < 9223372036854775807 by omega), hm]
   exact key (a + 1) (by omega)
  | false =>
   have := key a ha
   rw [BC h] at this
   simp only [GMb, GMc]
   rw [BC h]
   exact this
end Go.Gm
namespace Go.Gm
def cpN : List UInt8 → List UInt8 → Nat
 | a :: l, b :: m => if a = b then cpN l m + 1 else 0
 | _, _ => 0
theorem cpN_le : ∀ a b : List UInt8, cpN a b ≤ a.length ∧ cpN a b ≤ b.length
 | [], _ => ⟨Nat.zero_le _, Nat.zero_le _⟩
 | _ :: _, [] => ⟨Nat.zero_le _, Nat.zero_le _⟩
 | a :: l, b :: m => by
  have := cpN_le l m
  unfold cpN
  by_cases h : a = b
  ·rw [if_pos h]; simp only [List.length_cons]; omega
  ·rw [if_neg h]; exact ⟨Nat.zero_le _, Nat.zero_le _⟩
theorem cpN_get : ∀ (a b : List UInt8) (i : Nat), i < cpN a b → a[i]? = b[i]?
 | [], _, i, h => by simp [cpN] at h
 | _ :: _, [], i, h => by simp [cpN] at h
 | a :: l, b :: m, i, h => by
  unfold cpN at h
  by_cases e : a = b
  ·rw [if_pos e] at h
   cases i with
   | zero => simp [e]
   | succ i => simpa using cpN_get l m i (by omega)
  ·rw [if_neg e] at h; omega
theorem cpN_stop : ∀ (a b : List UInt8), cpN a b < a.length → cpN a b < b.length → a[cpN a b]? ≠ b[cpN a b]?
 | [], _, h, _ => by simp [cpN] at h
 | _ :: _, [], _, h => by simp [cpN] at h
 | a :: l, b :: m, h, h2 => by
  by_cases e : a = b
  ·have ec : cpN (a :: l) (b :: m) = cpN l m + 1 := by rw [cpN, if_pos e]
   rw [ec] at h h2 ⊢
   simpa using cpN_stop l m (by simpa using h) (by simpa using h2)
  ·have ec : cpN (a :: l) (b :: m) = 0 := by rw [cpN, if_neg e]
   rw [ec]; simpa using e
theorem q_common (a b : List UInt8) (H : Ab) (ha : a.length < 1152921504606846976) : Sh.f1d (.str a) (.str b) H = some (.ret (.int .i64 (cpN a b : Int)), H) := by
 unfold Sh.f1d
 have hm : (min (a.length : Int) (b.length : Int)) = ((min a.length b.length : Nat) : Int) := by omega
 have hle := cpN_le a b
 have l1 : B5 (.str a) = some (.int .i64 (a.length : Int)) := rfl
 have l2 : B5 (.str b) = some (.int .i64 (b.length : Int)) := rfl
 simp only [GMb, GMc, l1, l2, min_int, hm]
 have key := Br (G := fun rec1 vs H1 => Sh.f41 H rec1 (ag vs 0) (ag vs 1) (ag vs 2) (ag vs 3) (ag vs 4) H1) (σ := Nat) (fun i => i ≤ cpN a b)
  (fun i => [.str a, .str b, .int .i64 ((min a.length b.length : Nat) : Int), .int .i64 ((min a.length b.length : Nat) : Int), .int .i64 (i : Int)]) (fun _ => H) (fun i => cpN a b - i)
  (fun _ => some (.ret (.int .i64 (cpN a b : Int)), H)) (fun i rec hi hrec => ?_) 0 (Nat.zero_le _) (by omega)
 ·exact key
 ·unfold Sh.f41
  by_cases hlt : i < min a.length b.length
  ·have hlt' : (i : Int) < ((min a.length b.length : Nat) : Int) := by omega
   have h1 : i < a.length := by omega
   have h2 : i < b.length := by omega
   simp only [GMb, GMc, Ay, hlt', Gr h1, Gr h2]
   by_cases e : i = cpN a b
   ·have hne := cpN_stop a b (by omega) (by omega)
    rw [← e, List.getElem?_eq_getElem h1, List.getElem?_eq_getElem h2] at hne
    have hn : ¬ ((a[i].toNat : Int) = (b[i].toNat : Int)) := fun hc => hne (congrArg some (UInt8.toNat_inj.1 (by omega)))
    simp only [hn, GMb, GMc, not_false_eq_true]
    rw [e]
   ·have hg := cpN_get a b i (by omega)
    rw [List.getElem?_eq_getElem h1, List.getElem?_eq_getElem h2] at hg
    have hg' := Option.some.inj hg
    simp only [hg', GMb, GMc, not_true_eq_false, Av (show i < 9223372036854775807 by omega)]
    exact hrec (i + 1) (by omega) (by omega)
  ·have hlt' : ¬ (i : Int) < ((min a.length b.length : Nat) : Int) := by omega
   simp only [GMb, GMc, Ay, hlt']
   have : min a.length b.length = cpN a b := by omega
   rw [this]
def mustO (H : Ab) (p : Nat) (b : List UInt8) (r : List Aa) (a : Nat) (s rest : List UInt8) : Out :=
 if cpN (b.drop a) s < s.length then some (.pan (NS b (a + cpN (b.drop a) s) (s.drop (cpN (b.drop a) s) ++ rest)), AJ H p b r (a + cpN (b.drop a) s))
 else some (.ret (.tup []), AJ H p b r (a + cpN (b.drop a) s))
theorem lx_must {H : Ab} {p a : Nat} {b : List UInt8} {r : List Aa} (h : Lx H p b a r) (ha : a ≤ b.length) (hb : b.length < 1152921504606846976) (s rest : List UInt8) (hs : s.length ≤ 1000000) (hr : rest.length ≤ 1000000) :
  Sh.f3 (.ptr p 0 0) (.str s) (.str rest) H = mustO H p b r a s rest := by
 unfold Sh.f3 mustO
 have hle := cpN_le (b.drop a) s
 have hd : (b.drop a).length = b.length - a := List.length_drop
 have hq := q_common (b.drop a) s H (by omega)
 have l2 : B5 (.str s) = some (.int .i64 (s.length : Int)) := rfl
 generalize cpN (b.drop a) s = n at hq hle ⊢
 have hw : IntKind.i64.wrap ((a : Int) + (n : Int)) = ((a + n : Nat) : Int) := by rw [A0] <;> omega
 have hm := EO (a' := a) h (a + n)
 rw [BC h] at hm
 have hx := C6 (a' := a + n) h
 simp only [GMb, GMc, Ae, Ah, Nat.zero_add, QE h, Dv h, Dc ha, hq, hw, hm, l2]
 by_cases hc : n < s.length
 ·have hc' : (n : Int) < (s.length : Int) := by omega
  have hcat : Af .none .add (.str (s.drop n)) (.str rest) = some (.str (s.drop n ++ rest)) := AV (by rw [List.length_drop]; omega)
  simp only [hc', GMb, GMc, Dc hle.2, hcat, KM hx, if_pos hc]
  rfl
 ·have hc' : ¬ (n : Int) < (s.length : Int) := by omega
  simp only [hc', GMb, GMc, if_neg hc]
end Go.Gm
namespace Go.Gm
theorem q_sign (c : UInt8) (H : Ab) : Sh.f1k (.int .u8 (c.toNat : Int)) H = some (.ret (.bool (Md c)), H) := by
 unfold Sh.f1k Md
 by_cases h : (c.toNat : Int) > 32
 ·have : 33 ≤ c.toNat := by omega
  simp [h, this]; omega
 ·have : ¬ 33 ≤ c.toNat := by omega
  simp [h, this]
def onB (b : List UInt8) (f a : Nat) : Bool := match b[a]? with
 | none => false
 | some c => decide (a - f < 40) && Md c
def Gh (b : List UInt8) (f : Nat) : Nat → Nat → Nat
 | 0, a => a
 | n + 1, a => if onB b f a then Gh b f n (a + 1) else a
def ruleO (H : Ab) (p : Nat) (b : List UInt8) (r : List Aa) (f e : Nat) (rest : List UInt8) : Out :=
 if e = f then some (.pan (NS b e (97 :: rest)), AJ H p b r e) else some (.ret (.str ((b.take e).drop f)), AJ H p b r e)
theorem lx_rule_end {H : Ab} {p a f : Nat} {b : List UInt8} {r : List Aa} (h : Lx H p b f r) (hf : f ≤ a) (ha : a ≤ b.length) (rest : List UInt8) (hr : rest.length ≤ 1000000) :
  (AN (fun j2 =>
 (Ae (.ptr p 0 0)).bind fun x51 =>
 (Ac 1 x51).bind fun x52 =>
 (Ad false 1 x52 (AJ H p b r a)).bind fun x53 =>
 (Af .none .eql x53 (.int .i64 (f : Int))).bind fun x54 =>
 Am x54 (
 (Af .none .add (.str [97]) (.str rest)).bind fun x55 =>
 bK H (Sh.f1 (.ptr p 0 0) x55 (AJ H p b r a)) fun x56 H57 =>
 j2 [.ptr p 0 0, .int .i64 (f : Int)] H57) (
 j2 [.ptr p 0 0, .int .i64 (f : Int)] (AJ H p b r a))) (fun vs H1 => Sh.f46 H (ag vs 0) (ag vs 1) H1)) = ruleO H p b r f a rest := by
 have hx := C6 (a' := a) h
 unfold ruleO
 have hcat : Af .none .add (.str [97]) (.str rest) = some (.str (97 :: rest)) := AV (by simp only [List.length_cons, List.length_nil]; omega)
 simp only [GMb, GMc, Ae, Ah, Nat.zero_add, Dv hx]
 by_cases e : a = f
 ·simp only [e, GMb, GMc, hcat, if_pos]
  subst e
  simp only [KM hx]
  rfl
 ·have e' : ¬ (a : Int) = (f : Int) := by omega
  simp only [e', GMb, GMc, if_neg e]
  unfold Sh.f46
  simp only [GMb, GMc, Ae, Ah, Nat.zero_add, Dv hx, QE hx, QZ hf ha]
theorem MY {b : List UInt8} {f a : Nat} (h : onB b f a = false) : ∀ n, Gh b f n a = a
 | 0 => rfl
 | n + 1 => by rw [Gh, h]; rfl
theorem ruleN_on {b : List UInt8} {f a : Nat} (h : onB b f a = true) (hf : f ≤ a) : Gh b f (40 - (a - f)) a = Gh b f (40 - (a + 1 - f)) (a + 1) := by
 have : a - f < 40 := by
  unfold onB at h
  split at h
  ·cases h
  ·simp at h; exact h.1
 have e : 40 - (a - f) = (40 - (a + 1 - f)) + 1 := by omega
 rw [e, Gh, h, if_pos rfl]
theorem onB_lt {b : List UInt8} {f a : Nat} (h : onB b f a = true) : a < b.length := by
 rcases Nat.lt_or_ge a b.length with h' | h'
 ·exact h'
 ·unfold onB at h; rw [List.getElem?_eq_none h'] at h; cases h
theorem lx_rule {H : Ab} {p f : Nat} {b : List UInt8} {r : List Aa} (h : Lx H p b f r) (hf : f ≤ b.length) (hb : b.length < 1152921504606846976) (rest : List UInt8) (hr : rest.length ≤ 1000000) :
  Sh.fy (.ptr p 0 0) (.str rest) H = ruleO H p b r f (Gh b f 40 f) rest := by
 unfold Sh.fy
 simp only [GMb, GMc, Ae, Ah, Nat.zero_add, Dv h]
 have key := Br (G := fun rec1 vs H1 => Sh.f47 H rec1 (ag vs 0) (ag vs 1) (ag vs 2) H1) (σ := Nat) (fun i => f ≤ i ∧ i ≤ b.length) (fun _ => [.ptr p 0 0, .str rest, .int .i64 (f : Int)]) (fun i => AJ H p b r i) (fun i => b.length - i)
  (fun i => ruleO H p b r f (Gh b f (40 - (i - f)) i) rest) (fun i rec hi hrec => ?_) f ⟨Nat.le_refl _, hf⟩ (by omega)
 ·rw [BC h, Nat.sub_self, Nat.sub_zero] at key; exact key
 ·unfold Sh.f47
  obtain ⟨h1, h2⟩ := hi
  have hx := C6 (a' := i) h
  have hend := lx_rule_end h h1 h2 rest hr
  simp only [GMb, GMc, GO hx]
  by_cases e : i = b.length
  ·have ho : onB b f i = false := by unfold onB; rw [e, List.getElem?_eq_none (Nat.le_refl _)]
   rw [MY ho]
   simp only [e, GMb, GMc] at hend ⊢
   exact hend
  ·have hlt : i < b.length := by omega
   have hw : IntKind.i64.wrap ((i : Int) - (f : Int)) = ((i - f : Nat) : Int) := by rw [A0] <;> omega
   simp only [e, GMb, GMc, Ae, Ah, Nat.zero_add, Dv hx, QE hx, hw]
   by_cases h40 : i - f < 40
   ·have h40' : ((i - f : Nat) : Int) < 40 := by omega
    simp only [h40', GMb, GMc, Ah, Nat.zero_add, Dv hx, QE hx, Gr hlt, q_sign]
    cases hs : Md b[i] with
    | true =>
     have ho : onB b f i = true := by unfold onB; rw [List.getElem?_eq_getElem hlt]; simp [h40, hs]
     rw [ruleN_on ho h1]
     simp only [GMb, GMc, Dv hx, Av (show i < 9223372036854775807 by omega), EO h]
     exact hrec (i + 1) ⟨by omega, by omega⟩ (by omega)
    | false =>
     have ho : onB b f i = false := by unfold onB; rw [List.getElem?_eq_getElem hlt]; simp [hs]
     rw [MY ho]
     simpa only [GMb, GMc, Ae, Ah, Nat.zero_add, Dv hx] using hend
   ·have h40' : ¬ ((i - f : Nat) : Int) < 40 := by omega
    have ho : onB b f i = false := by unfold onB; rw [List.getElem?_eq_getElem hlt]; simp [h40]
    rw [MY ho]
    simpa only [h40', GMb, GMc, Ae, Ah, Nat.zero_add, Dv hx] using hend
end Go.Gm
namespace Go.Gm
structure Ou (p : Nat) (H H' : Ab) : Prop where
 len : H.length ≤ H'.length
 old : ∀ i, i < H.length → i ≠ p → H'[i]? = H[i]?
theorem Ou.refl (p : Nat) (H : Ab) : Ou p H H := ⟨Nat.le_refl _, fun _ _ _ => rfl⟩
theorem Ou.trans {p : Nat} {H H1 H2 : Ab} (h : Ou p H H1) (k : Ou p H1 H2) : Ou p H H2 :=
 ⟨Nat.le_trans h.len k.len, fun i hi hp => (k.old i (Nat.lt_of_lt_of_le hi h.len) hp).trans (h.old i hi hp)⟩
theorem Ou.push (p : Nat) (H G : Ab) : Ou p H (H ++ G) :=
 ⟨by simp, fun i hi hp => List.getElem?_append_left hi⟩
theorem Lx.push {H G : Ab} {p a : Nat} {b : List UInt8} {r : List Aa} (h : Lx H p b a r) : Lx (H ++ G) p b a r := by
 have : p < H.length := by
  rcases Nat.lt_or_ge p H.length with h' | h'
  ·exact h'
  ·unfold Lx at h; rw [List.getElem?_eq_none h'] at h; cases h
 unfold Lx
 rw [List.getElem?_append_left this]; exact h
theorem digs_mem (c : UInt8) : ([48, 49, 50, 51, 52, 53, 54, 55, 56, 57] : List UInt8).contains c = decide (48 ≤ c.toNat ∧ c.toNat ≤ 57) := by
 simp only [List.contains_eq_mem, List.mem_cons, List.not_mem_nil, or_false, decide_eq_decide, ← UInt8.toNat_inj]
 simp only [UInt8.reduceToNat]
 omega
end Go.Gm
namespace Go.Gm
theorem KE {a n : Nat} (h : a + n < 9223372036854775807) : IntKind.i64.wrap ((a : Int) + (n : Int)) = ((a + n : Nat) : Int) := by rw [A0] <;> omega
def G2 (b : List UInt8) (a : Nat) (s : List UInt8) : Nat := a + cpN (b.drop a) s
theorem HK {b : List UInt8} {a : Nat} (ha : a ≤ b.length) (s : List UInt8) : G2 b a s ≤ b.length := by
 have := (cpN_le (b.drop a) s).1
 rw [List.length_drop] at this
 unfold G2; omega
end Go.Gm
namespace Go.Gm
def eolN (b : List UInt8) (a : Nat) : Nat := if a = b.length then a else if A8 b (crN b a) [10] then crN b a + 1 else crN b a
theorem eolN_le {b : List UInt8} {a : Nat} (ha : a ≤ b.length) : eolN b a ≤ b.length := by
 unfold eolN
 split
 ·exact ha
 ·split
  ·rename_i h; exact Cr h
  ·exact crN_le ha
theorem ruleN_le {b : List UInt8} {f : Nat} : ∀ (n a : Nat), a ≤ b.length → a ≤ Gh b f n a ∧ Gh b f n a ≤ b.length
 | 0, a, h => ⟨Nat.le_refl _, h⟩
 | n + 1, a, h => by
  rw [Gh]
  cases ho : onB b f a with
  | true => have := ruleN_le (b := b) (f := f) n (a + 1) (onB_lt ho); simp only [if_true]; omega
  | false => simp only [Bool.false_eq_true, if_false]; omega
end Go.Gm
namespace Go.Gm
def Row1 (v : Aa) (H : Ab) (l : List Nat) : Prop := AE v = some (.int .i64 (l.length : Int)) ∧ ∀ (i : Nat) (h : i < l.length), ∃ p, A4 1 v (.int .i64 (i : Int)) = some p ∧ ∀ G, Ad false 1 p (H ++ G) = some (.int .u32 (l[i] : Int))
theorem row_ms {l : List Nat} {H : Ab} {id : Nat} (hg : H[id]? = some (.cel 0 (flat cU l))) : Row1 (.ms id 0 0 l.length l.length 1 true) H l := by
 refine ⟨rfl, fun i h => ?_⟩
 have hidx := Ek (sz := 1) (id := id) (n := l.length) (K := .i64) (g := 0) (off := 0) (cap := l.length) (ex := true) (i := i) h
 simp only [Nat.zero_add, Nat.mul_one] at hidx
 exact ⟨_, hidx, fun G => load_left (HJ (f := cU) (Ba hg) h)⟩
theorem q01_bitsR {v : Aa} {H : Ab} {l : List Nat} (hv : Row1 v H l) (hl : l.length ≤ 2199023255552) (hx : Lim l) : Sh.fw v H = some (.ret (.sl (enL cB (F1 (Bf l))) .no), H) := by
 unfold Sh.fw
 refine BQ l.length (fun i => [v, Fj cB H (Bf (l.take i)), .int .i64 (i : Int)]) (fun i => Ef cB Ec 1 H (Bf (l.take i))) _ (by omega) (fun rec i hi => ?_) (fun rec => ?_)
 ·have hi' : (i : Int) < (l.length : Int) := by omega
  have hxi : l[i] < 4294967296 := hx _ (List.getElem_mem hi)
  have htk : Bf (l.take (i + 1)) = Bf (l.take i) ++ Co 32 l[i] := by
   rw [List.take_succ_eq_append_getElem hi, Bf, List.flatMap_append]; simp [Bf]
  have hlen : (Bf (l.take i)).length ≤ 32 * 2199023255552 := by rw [C3]; simp; omega
  obtain ⟨p, hp1, hp2⟩ := hv.2 i hi
  obtain ⟨G, hG⟩ := Mm (f := cB) (ty := Ec) (sz := 1) H (Bf (l.take i))
  have hld : Ad false 1 p (Ef cB Ec 1 H (Bf (l.take i))) = some (.int .u32 (l[i] : Int)) := by rw [hG]; exact hp2 G
  unfold Sh.f2q
  simp only [AC, CT, Dp, hv.1, Bq, AO, hi', decide_true, AM, hp1, hld, htk]
  generalize Bf (l.take i) = o at hlen
  generalize l[i] = x at hxi
  refine Br (σ := Nat × Nat × List Bool) (fun s => s.1 ≤ 32 ∧ s.2.1 < 4294967296 ∧ s.2.2.length ≤ o.length + s.1) (fun s => [v, Fj cB H s.2.2, .int .i64 (i : Int), .int .u32 (s.2.1 : Int), .int .i64 (s.1 : Int)]) (fun s => Ef cB Ec 1 H s.2.2) (fun s => 32 - s.1)
   (fun s => rec [v, Fj cB H (s.2.2 ++ Co (32 - s.1) s.2.1), .int .i64 ((i + 1 : Nat) : Int)] (Ef cB Ec 1 H (s.2.2 ++ Co (32 - s.1) s.2.1))) (fun s rec2 hs hrec => ?_) (0, x, o) ⟨by dsimp only; omega, hxi, by dsimp only; omega⟩ (by dsimp only; omega)
  obtain ⟨k, y, p⟩ := s
  obtain ⟨hk, hy, hp⟩ := hs
  simp only at hk hy hp hrec ⊢
  unfold Sh.f4l
  by_cases h : k < 32
  ·have h' : (k : Int) < 32 := by omega
   have e1 : (y : Int).tmod 2 = ((y % 2 : Nat) : Int) := rfl
   have e2 : IntKind.u32.wrap ((y : Int).tdiv 2) = ((y / 2 : Nat) : Int) := by rw [show (y : Int).tdiv 2 = ((y / 2 : Nat) : Int) from rfl, CZ] <;> omega
   have e3 : decide (((y % 2 : Nat) : Int) = 1) = (y % 2 == 1) := by rw [Bool.eq_iff_iff]; simp only [beq_iff_eq, decide_eq_true_eq]; omega
   have e4 : IntKind.i64.wrap ((k : Int) + 1) = ((k + 1 : Nat) : Int) := by rw [A0] <;> omega
   have := hrec (k + 1, y / 2, p ++ [y % 2 == 1]) ⟨h, by dsimp only; omega, by simp; omega⟩ (by dsimp only; omega)
   simp only [AC, CT, Dp, FU, G8, AO, h', decide_true, Bq, AM, Il (show (2 : Int) ≠ 0 by decide), Lc (show (2 : Int) ≠ 0 by decide), e1, e2, D0, Ev, e3, build_B]
   rw [In (by simp) (by simp; omega) (by simp; omega)]
   simp only [C7, D5, BA, Bq, e4, this]
   rw [show 32 - k = (32 - (k + 1)) + 1 from by omega, Co]; simp
  ·have : k = 32 := by omega
   subst this
   have e4 : IntKind.i64.wrap ((i : Int) + 1) = ((i + 1 : Nat) : Int) := by rw [A0] <;> omega
   simp [Co, e4]
 ·unfold Sh.f2q
  obtain ⟨G, hG⟩ := Mm (f := cB) (ty := Ec) (sz := 1) H (Bf l)
  rw [List.take_of_length_le (Nat.le_refl _)]
  simp only [AC, CT, Dp, Hz, hG, hv.1, Bq, AO, Int.lt_irrefl, decide_false, AK, q01_cut (Bf l) _ _ (by rw [C3]; omega), D5, DG, KW, Option.map_some]
theorem q01_normR {v : Aa} {H : Ab} {l : List Nat} (hv : Row1 v H l) (hl : l.length ≤ 1099511627776) (hx : Lim l) : Sh.fc v H = some (.ret (.sl (enL cU (C9 (val l))) .no), H) := by
 have hc := cutL_le (Bf l)
 rw [C3] at hc
 unfold Sh.fc
 rw [q01_bitsR hv (by omega) hx]
 simp only [Fo]
 rw [q01_of _ _ _ (by omega)]
 simp only [Fo, JM, R5, PA, val_bits l hx]
end Go.Gm
