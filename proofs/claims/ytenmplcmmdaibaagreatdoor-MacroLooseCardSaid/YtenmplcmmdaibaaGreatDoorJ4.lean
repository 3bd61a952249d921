/- Texts of this proof, joined. -/
import Derived.Test.YtenmplcmmdaibaaGreatDoorJ2
import Derived.Test.YtenmplcmmdaibaaGreatDoorJ3
import Derived.Test.YtenmplcmmdaibaaGreatDoorCards
import Derived.Test.YtenmplcmmdaibaaGreatDoorTie
import Derived.WalkKit
import Derived.ProofKit
import Derived.OpenShut
import Derived.Deep.DeepHandedRow
import Derived.Lib.LaidTab
import Derived.Lib.Bytealg
import Derived.Lib.ItoaNum
import Derived.Lib.Repeat
import Derived.Lib.Join
import Derived.Lib.TrimByte
set_option linter.unusedVariables false
set_option linter.unusedSimpArgs false
namespace Go.Proofs.YtenmplcmmdaibaaGreatDoor
open Go.ChangeShapes Go.WideShapes Go.ChangeAt Go.RowKit Go.Gm
theorem own : ownKnob Tryz.prog.godebug = none := by kernel_rfl
theorem laidOut : laidOutB Tryz.prog = true := by kernel_rfl
theorem gTab : Tryz.prog.globalNamed "internal/strconv.uint64pow10" = some 1 := by kernel_rfl
theorem gTabType : (Tryz.prog.globals[1]?).map (·.type) = some 172 := by kernel_rfl
def flatD : Nat → DataW Unit → List Value
 | _, .lit (.int k n) => [.int k n]
 | f + 1, .agg ds => ds.flatMap (flatD f)
 | _, _ => []
def L6 : List (String × DataW Unit) := [("math/bits.deBruijn32tab", Rows.laid_math_bits_deBruijn32tab), ("math/bits.deBruijn64tab", Rows.laid_math_bits_deBruijn64tab), ("internal/strconv.uint64pow10", Rows.laid_internal_strconv_uint64pow10)]
theorem pow_data : (Rows.laid_internal_strconv_uint64pow10 : DataW Unit) = Lib.tabData .u64 Lib.pow10Tab := by kernel_rfl
theorem table {W : World} (h : laidMetH Tryz.prog L6 W) : Lib.TabIs Tryz.prog W "internal/strconv.uint64pow10" .u64 Lib.pow10Tab := by
 have h' : laidMet Tryz.prog L6 W := h
 obtain ⟨ps, ⟨g1, t1, c1, f1, p1, q1, e1, e2, e3, e4, ⟨g2, t2, c2, f2, p2, q2, e5, e6, e7, e8, ⟨g', t', cs, fuel, p, q, hg', ht', hvar, hd, _, _⟩, _⟩, _⟩, _⟩ := h'
 obtain rfl := Option.some.inj (gTab.symm.trans hg')
 obtain rfl := Option.some.inj (gTabType.symm.trans ht')
 unfold Lib.TabIs
 rw [hvar]
 rw [pow_data] at hd
 rw [← Lib.cells_of_tab Tryz.underlying172 Tryz.underlying128 (by kernel_rfl) (by kernel_rfl) hd]
theorem fixed {W : World} (h : laidMetH Tryz.prog L6 W) : ∀ b cs, FixT b = some cs → 0 < cs.size ∧ ∃ t fr, W.heap[b]? = some (.cells cs t fr) := by
 intro b cs hb
 have ht := table h
 unfold FixT at hb
 split at hb
 ·rename_i e
  subst e
  cases hb
  refine ⟨by decide, ?_⟩
  unfold Lib.TabIs World.var? at ht
  rw [gTab] at ht
  simp only [Option.bind_some] at ht
  split at ht
  ·rename_i cs t fr hh
   cases ht
   exact ⟨t, fr, hh⟩
  ·cases ht
 ·cases hb
def layCells (h : Array Obj) (g : Nat) (vs : Array Value) : Array Obj := h.modify g fun
 | .cells _ t frozen => .cells vs t frozen
 | o => o
def layAll (h : Array Obj) (x : Nat × DataW Unit) : Array Obj := layCells h x.1 (flatD 4 x.2).toArray
noncomputable def MB (os : Os) : World :=
 { World.holding Tryz.prog os ⟨#[], #[], []⟩ with heap := [(2, Rows.laid_math_bits_deBruijn32tab), (3, Rows.laid_math_bits_deBruijn64tab), (1, Rows.laid_internal_strconv_uint64pow10)].foldl layAll (World.holding Tryz.prog os ⟨#[], #[], []⟩).heap }
theorem laid_met (os : Os) (args : Array Value) : laidMet Tryz.prog L6 ((MB os).forCall (fun _ _ => 0) ⟨#[], args, []⟩).memory :=
 laidMet_of_run' 8 (by kernel_rfl) (by kernel_rfl)
theorem ndsSupp : NM Tryz.prog 4 25 = true := by kernel_rfl
theorem str_rel (E : Env) (s : ByteArray) : Am E (.str s.data.toList) (.string s) := by
 have : s = ⟨s.data.toList.toArray⟩ := by cases s; simp
 rw [this]; exact .str _
end Go.Proofs.YtenmplcmmdaibaaGreatDoor
namespace Go.Gm
def FH : Aa → Bool
 | .bool _ => true
 | .int _ _ => true
 | .str _ => true
 | .sl _ .no => true
 | .sl _ .tight => true
 | _ => false
class Pl {α : Type} (f : α → List Aa) : Prop where
 pl : ∀ a, (f a).all FH = true
instance : Pl cB := ⟨fun _ => rfl⟩
instance : Pl cU := ⟨fun _ => rfl⟩
instance : Pl cI := ⟨fun _ => rfl⟩
instance : Pl cN := ⟨fun _ => rfl⟩
instance : Pl cY := ⟨fun _ => rfl⟩
instance : Pl cS := ⟨fun _ => rfl⟩
instance : Pl cNd := ⟨fun _ => rfl⟩
theorem plnC_scal {c : Aa} (h : FH c = true) : c.isScal = true := by cases c <;> first | rfl | (simp [FH] at h)
theorem plnC_imm {c : Aa} (h : FH c = true) : Bf c = true := by
 cases c <;> first | rfl | (simp [FH] at h)
 rename_i es tk; cases tk <;> first | rfl | (simp [FH] at h)
theorem plnC_frz {c : Aa} {H : Ab} {n d : Nat} (h : FH c = true) : frz H n (d + 1) c = some c := by
 cases c <;> first | (simp [frz]; done) | (simp [FH] at h)
 rename_i es tk; cases tk <;> first | (simp [frz]; done) | (simp [FH] at h)
theorem Gw {H : Ab} {n d : Nat} : ∀ {cs : List Aa}, cs.all FH = true → D8 H n (d + 2) cs = some cs
 | [], _ => by simp [D8]
 | c :: cs, h => by
  simp only [List.all_cons, Bool.and_eq_true] at h
  simp [D8, plnC_frz h.1, Gw h.2]
section
variable {α : Type} {f : α → List Aa} {l : List α} {sz i n : Nat} {a : α} {H : Ab} {id : Nat} {K : IntKind}
def flat (f : α → List Aa) (l : List α) : List Aa := l.flatMap f
@[simp] theorem flat_nil : flat f [] = [] := (rfl)
theorem Cc : flat f (a :: l) = f a ++ flat f l := by simp [flat]
theorem flat_append {m : List α} : flat f (l ++ m) = flat f l ++ flat f m := by simp [flat]
theorem Ka [hf : Sz f sz] : ∀ (l : List α), (flat f l).length = l.length * sz
 | [] => by simp
 | a :: l => by
  have := Ka l
  simp only [Cc, List.length_append, hf.len, List.length_cons, Nat.succ_mul]
  omega
theorem Oi [hp : Pl f] : ∀ (l : List α), (flat f l).all FH = true
 | [] => rfl
 | a :: l => by simp only [Cc, List.all_append, Bool.and_eq_true]; exact ⟨hp.pl a, Oi l⟩
theorem flat_imm [hp : Pl f] (l : List α) : (flat f l).all Bf = true := by
 rw [List.all_eq_true]; intro c hc; exact plnC_imm (List.all_eq_true.1 (Oi (f := f) l) c hc)
theorem MX [hf : Sz f sz] : ∀ (l : List α) (i : Nat), (flat f l).drop (i * sz) = flat f (l.drop i)
 | [], i => by simp
 | a :: l, 0 => by simp
 | a :: l, i + 1 => by
  have := MX l i
  rw [List.drop_succ_cons, ← this, Cc, Nat.succ_mul, Nat.add_comm, List.drop_append, hf.len, List.drop_of_length_le (by rw [hf.len]; omega), List.nil_append]
  congr 1; omega
theorem MW [hf : Sz f sz] : ∀ (l : List α) (i : Nat), (flat f l).take (i * sz) = flat f (l.take i)
 | [], i => by simp
 | a :: l, 0 => by simp
 | a :: l, i + 1 => by
  have := MW l i
  rw [List.take_succ_cons, Cc, Cc, ← this, Nat.succ_mul, Nat.add_comm, List.take_append, hf.len, List.take_of_length_le (by rw [hf.len]; omega)]
  congr 2; omega
theorem flat_at [hf : Sz f sz] (h : i < l.length) : ((flat f l).drop (i * sz)).take sz = f l[i] := by
 rw [MX, List.drop_eq_getElem_cons h, Cc, List.take_append_of_le_length (by rw [hf.len]; omega), List.take_of_length_le (by rw [hf.len]; omega)]
theorem flat_set [hf : Sz f sz] (h : i < l.length) : D4 (flat f l) (i * sz) sz (f a) = flat f (l.set i a) := by
 have e : l.set i a = l.take i ++ a :: l.drop (i + 1) := by rw [List.set_eq_take_append_cons_drop, if_pos h]
 have e2 : i * sz + sz = (i + 1) * sz := by rw [Nat.succ_mul]
 unfold D4
 rw [e, e2, MW, MX, flat_append, Cc]
 simp
theorem flat_le [hf : Sz f sz] (h : i < l.length) : i * sz + sz ≤ (flat f l).length := by
 rw [Ka, ← Nat.succ_mul]; exact Nat.mul_le_mul_right _ h
theorem DZ {g off cap : Nat} {ex : Bool} (h : i < n) : A3 sz (.ms id g off n cap sz ex) (.int K (i : Int)) = some (.ptr id g (off + i * sz)) := by
 unfold A3
 simp only []
 rw [if_pos ⟨trivial, by omega, by omega⟩]; simp
theorem Hm [hf : Sz f 1] (hg : A4 H id 0 = some (flat f l)) (h : i < l.length) : Ad false 1 (.ptr id 0 i) H = (f l[i])[0]? := by
 have h1 := flat_at (f := f) (sz := 1) h
 have h2 := flat_le (f := f) (sz := 1) h
 simp only [Nat.mul_one] at h1 h2
 simp only [Ad, hg, Option.bind_some, Bool.false_eq_true, if_false]
 rw [← h1]; simp
theorem Ft [hf : Sz f sz] {v : Aa} (hg : A4 H id 0 = some (flat f l)) (h : i < l.length) (hv : v.acells = some (f a)) : Ak sz (.ptr id 0 (i * sz)) v H = some (FG H id 0 (flat f (l.set i a))) := by
 simp only [Ak, hg, Option.bind_some, hv, hf.len, flat_le h, and_self, if_true, flat_set h]
theorem Q0 : ∀ (n : Nat), repl n (f a) = flat f (List.replicate n a)
 | 0 => rfl
 | n + 1 => by
  have := Q0 n
  simp only [repl, List.replicate_succ, List.flatten_cons, Cc] at this ⊢
  rw [this]
theorem Fm [hf : Sz f sz] [hp : Pl f] {bytes : Nat} (hb : n * bytes ≤ 140737488355328) (hn : n ≤ 140737488355328) : EE sz bytes (some (f a)) (.int .i64 (n : Int)) (.int .i64 (n : Int)) H = some (.ms H.length 0 0 n n sz true, H ++ [.cel 0 (flat f (List.replicate n a))]) := by
 have h1 : ((n : Int) * (bytes : Int)) ≤ 140737488355328 := by
   have : ((n * bytes : Nat) : Int) ≤ 140737488355328 := by omega
   simpa using this
 have h2 : (f a).all Aa.isScal = true := by rw [List.all_eq_true]; intro c hc; exact plnC_scal (List.all_eq_true.1 (hp.pl a) c hc)
 unfold EE
 simp only [Option.bind_some]
 rw [if_pos ⟨h2, hf.len a, by omega, by omega, h1, by omega⟩]
 simp only [Int.toNat_natCast, Q0]
theorem PE [hf : Sz f sz] : ∀ (l : List α), EJ sz l.length (flat f l) = enL f l
 | [] => rfl
 | a :: l => by
  have := PE l
  simp only [List.length_cons, EJ, Cc, enL, List.map_cons, List.take_append_of_le_length (Nat.le_of_eq (hf.len a).symm), List.take_of_length_le (Nat.le_of_eq (hf.len a)), List.drop_left' (hf.len a)]
  rw [this]; rfl
theorem fall_ms [hf : Sz f sz] [hp : Pl f] {b d cap : Nat} {ex : Bool} (hg : A4 H id 0 = some (flat f l)) (hi : b ≤ id) : ER H b (d + 3) (.ms id 0 0 l.length cap sz ex) = some (.sl (enL f l) .no) := by
 have h1 : ¬ id < b := by omega
 unfold ER
 simp only [frz, h1, if_false, hg, Option.bind_some, List.drop_zero, Nat.zero_add, Ka, Nat.le_refl, if_true, List.take_of_length_le (Nat.le_of_eq (Ka (f := f) l)), Gw (Oi (f := f) l), flat_imm (f := f) l, PE, Option.map_some, forget, Fc, fgt]
@[simp] theorem Qz {G : Ab} {g : Nat} {cs : List Aa} : FG (H ++ G) H.length g cs = H ++ FG G 0 g cs := OA (k := 0)
@[simp] theorem setC_appK {G : Ab} {g k : Nat} {cs : List Aa} : FG (H ++ G) (H.length + k) g cs = H ++ FG G k g cs := OA
@[simp] theorem Qx {G : Ab} {g g' : Nat} {c cs : List Aa} : FG (.cel g' c :: G) 0 g cs = .cel g cs :: G := (rfl)
@[simp] theorem setC_suc {G : Ab} {g k : Nat} {b : Blk} {cs : List Aa} : FG (b :: G) (k + 1) g cs = b :: FG G k g cs := Qy

end
theorem AT {H : Ab} {p : Nat} {cs : List Aa} (hg : H[p]? = some (.cel 0 cs)) : A4 H p 0 = some cs := by simp [A4, hg]
theorem load_left {a : Bool} {sz p g o : Nat} {H G : Ab} {v : Aa} (h : Ad a sz (.ptr p g o) H = some v) : Ad a sz (.ptr p g o) (H ++ G) = some v := by
 unfold Ad at h ⊢
 simp only at h ⊢
 cases hg : A4 H p g with
 | none => rw [hg] at h; cases h
 | some cs =>
  have : A4 (H ++ G) p g = some cs := by
   have hlt : p < H.length := by
    by_cases hl : p < H.length
    ·exact hl
    ·unfold A4 at hg; rw [List.getElem?_eq_none (by omega)] at hg; cases hg
   rw [get_old hlt]; exact hg
  rw [this]; rw [hg] at h; exact h
theorem C8 {H : Ab} {p : Nat} {cs cs' : List Aa} (hg : H[p]? = some (.cel 0 cs)) : FG H p 0 cs' = H.set p (.cel 0 cs') := by simp [FG, hg]
theorem AA {cs : List Aa} {B : Ab} : (B ++ [Blk.cel 0 cs])[B.length]? = some (.cel 0 cs) := by simp
theorem BU {B : Ab} {b b' : Blk} : (B ++ [b]).set B.length b' = B ++ [b'] := by simp
end Go.Gm
namespace Go.Gm
theorem GMb : (((((((∀ {α β : Type} (a : α) (f : α → Option β), Option.bind (Option.some a) f = f a) ∧
 (∀ (v : Aa) (l : List Aa), ag (v :: l) 0 = v)) ∧
 ((∀ (a v : Aa) (l : List Aa), ag (a :: v :: l) 1 = v) ∧
 (∀ (a b v : Aa) (l : List Aa), ag (a :: b :: v :: l) 2 = v))) ∧
 (((∀ (a b c v : Aa) (l : List Aa), ag (a :: b :: c :: v :: l) 3 = v) ∧
 (∀ (a b c d v : Aa) (l : List Aa), ag (a :: b :: c :: d :: v :: l) 4 = v)) ∧
 ((∀ (a b c d e v : Aa) (l : List Aa), ag (a :: b :: c :: d :: e :: v :: l) 5 = v) ∧
 (∀ {ek : EqK} {k : IntKind} {a b : Int}, Af ek BinOp.lss (Aa.int k a) (Aa.int k b) = Option.some (Aa.bool (Decidable.decide (a < b))))))) ∧
 ((((∀ {ek : EqK} {k : IntKind} {a b : Int}, Af ek BinOp.gtr (Aa.int k a) (Aa.int k b) = Option.some (Aa.bool (Decidable.decide (a > b)))) ∧
 (∀ {ek : EqK} {k : IntKind} {a b : Int}, Af ek BinOp.leq (Aa.int k a) (Aa.int k b) = Option.some (Aa.bool (Decidable.decide (a ≤ b))))) ∧
 ((∀ {ek : EqK} {k : IntKind} {a b : Int}, Af ek BinOp.geq (Aa.int k a) (Aa.int k b) = Option.some (Aa.bool (Decidable.decide (a ≥ b)))) ∧
 (∀ {ek : EqK} {k : IntKind} {a b : Int}, Af ek BinOp.eql (Aa.int k a) (Aa.int k b) = Option.some (Aa.bool (a == b))))) ∧
 (((∀ {ek : EqK} {k : IntKind} {a b : Int}, Af ek BinOp.neq (Aa.int k a) (Aa.int k b) = Option.some (Aa.bool (a != b))) ∧
 (∀ {ek : EqK} {k : IntKind} {a b : Int}, Af ek BinOp.add (Aa.int k a) (Aa.int k b) = Option.some (Aa.int k (IntKind.wrap k (a + b))))) ∧
 ((∀ {ek : EqK} {k : IntKind} {a b : Int}, Af ek BinOp.sub (Aa.int k a) (Aa.int k b) = Option.some (Aa.int k (IntKind.wrap k (a - b)))) ∧
 ((∀ {ek : EqK} {k : IntKind} {a b : Int}, Af ek BinOp.mul (Aa.int k a) (Aa.int k b) = Option.some (Aa.int k (IntKind.wrap k (a * b)))) ∧
 (∀ (a b : Out), Al (Aa.bool Bool.true) a b = a)))))) ∧
 (((((∀ (a b : Out), Al (Aa.bool Bool.false) a b = b) ∧
 (∀ (a b : Aa), A6 (Aa.bool Bool.true) a b = Option.some a)) ∧
 ((∀ (a b : Aa), A6 (Aa.bool Bool.false) a b = Option.some b) ∧
 (∀ {kv : Aa → Out} (x : Option Aa), gk (Aa.bool Bool.true) Bool.true x kv = Option.bind x kv))) ∧
 (((∀ {kv : Aa → Out} (x : Option Aa), gk (Aa.bool Bool.false) Bool.false x kv = Option.bind x kv) ∧
 (∀ {kv : Aa → Out} (x : Option Aa), gk (Aa.bool Bool.true) Bool.false x kv = kv Bp)) ∧
 ((∀ {kv : Aa → Out} (x : Option Aa), gk (Aa.bool Bool.false) Bool.true x kv = kv Bp) ∧
 ((∀ {kv : Aa → Out} (w : Bool) (x : Option Aa), gk (Aa.tup []) w x kv = kv Bp) ∧
 (∀ {x : Option Aa} {p : Bool → Aa → Prop} {k : Aa → Out}, gkc (Aa.bool Bool.true) Bool.true x p k = bC x (p Bool.true) k))))) ∧
 ((((∀ {x : Option Aa} {p : Bool → Aa → Prop} {k : Aa → Out}, gkc (Aa.bool Bool.false) Bool.false x p k = bC x (p Bool.true) k) ∧
 (∀ {x : Option Aa} {p : Bool → Aa → Prop} {k : Aa → Out}, gkc (Aa.bool Bool.true) Bool.false x p k = chk (p Bool.false Bp) (k Bp))) ∧
 ((∀ {x : Option Aa} {p : Bool → Aa → Prop} {k : Aa → Out}, gkc (Aa.bool Bool.false) Bool.true x p k = chk (p Bool.false Bp) (k Bp)) ∧
 (∀ {x : Option Aa} {p : Bool → Aa → Prop} {k : Aa → Out} {w : Bool}, gkc (Aa.tup []) w x p k = chk (p Bool.false Bp) (k Bp)))) ∧
 (((∀ {v : Aa} {p : Aa → Prop} {k : Aa → Out}, bC (Option.some v) p k = chk (p v) (k v)) ∧
 (∀ {x : Out}, chk True x = x)) ∧
 ((∀ {H0 H : Ab} {k : Aa → Ab → Out} (x : Out), gbK H0 (Aa.bool Bool.true) Bool.true H x k = bK H0 x k) ∧
 ((∀ {H0 H : Ab} {k : Aa → Ab → Out} (x : Out), gbK H0 (Aa.bool Bool.false) Bool.false H x k = bK H0 x k) ∧
 (∀ {H0 H : Ab} {k : Aa → Ab → Out} (x : Out), gbK H0 (Aa.bool Bool.true) Bool.false H x k = k Bp H))))))) ∧
 ((((((∀ {H0 H : Ab} {k : Aa → Ab → Out} (x : Out), gbK H0 (Aa.bool Bool.false) Bool.true H x k = k Bp H) ∧
 (∀ {H0 H : Ab} {k : Aa → Ab → Out} (w : Bool) (x : Out), gbK H0 (Aa.tup []) w H x k = k Bp H)) ∧
 ((∀ {H0 H : Ab} {k : Aa → Ab → Out} (x : Out), gbP H0 (Aa.bool Bool.true) Bool.true H x k = bP H0 x k) ∧
 (∀ {H0 H : Ab} {k : Aa → Ab → Out} (x : Out), gbP H0 (Aa.bool Bool.false) Bool.false H x k = bP H0 x k))) ∧
 (((∀ {H0 H : Ab} {k : Aa → Ab → Out} (x : Out), gbP H0 (Aa.bool Bool.true) Bool.false H x k = k Bp H) ∧
 (∀ {H0 H : Ab} {k : Aa → Ab → Out} (x : Out), gbP H0 (Aa.bool Bool.false) Bool.true H x k = k Bp H)) ∧
 ((∀ {H0 H : Ab} {k : Aa → Ab → Out} (w : Bool) (x : Out), gbP H0 (Aa.tup []) w H x k = k Bp H) ∧
 (∀ {H : Ab} {k : Aa → Ab → Out} (x : Out), gbN (Aa.bool Bool.true) Bool.true H x k = BZ x k)))) ∧
 ((((∀ {H : Ab} {k : Aa → Ab → Out} (x : Out), gbN (Aa.bool Bool.false) Bool.false H x k = BZ x k) ∧
 (∀ {H : Ab} {k : Aa → Ab → Out} (x : Out), gbN (Aa.bool Bool.true) Bool.false H x k = k Bp H)) ∧
 ((∀ {H : Ab} {k : Aa → Ab → Out} (x : Out), gbN (Aa.bool Bool.false) Bool.true H x k = k Bp H) ∧
 (∀ {H : Ab} {k : Aa → Ab → Out} (w : Bool) (x : Out), gbN (Aa.tup []) w H x k = k Bp H))) ∧
 (((∀ {H : Ab} {k : Aa → Ab → Out} (v : Aa), BZ (Option.some (Res.ret v, H)) k = k v H) ∧
 (∀ {H0 H : Ab} {k : Aa → Ab → Out} (v : Aa), bK H0 (Option.some (Res.ret v, H)) k = k v H)) ∧
 ((∀ {H0 H : Ab} {k : Aa → Ab → Out} (v : Aa), bP H0 (Option.some (Res.ret v, H)) k = k v H) ∧
 ((∀ {H0 H : Ab} (v : Aa), rK H0 v H = Option.some (Res.ret v, H)) ∧
 (∀ {H H0 : Ab} {v : Aa}, rKN H0 v H = Option.some (Res.ret (forget v), H))))))) ∧
 (((((∀ {c : Bool}, unA UnOp.not (Aa.bool c) = Option.some (Aa.bool !c)) ∧
 (∀ {H : Ab} (v : Aa), retV (Option.some v) H = Option.some (Res.ret v, H))) ∧
 ((∀ {H : Ab}, AJ (Option.some H) = Option.some (Res.ret Aa.undef, H)) ∧
 (∀ {H : Ab} (v : Aa), B5 (Option.some (v, H)) = Option.some (Res.ret v, H)))) ∧
 (((∀ {H : Ab} {k : Aa → Ab → Out} (v : Aa), A1 (Option.some (v, H)) k = k v H) ∧
 (∀ {a b : Int}, (a == b) = decide (a = b))) ∧
 ((∀ {a b : Int}, (a != b) = !decide (a = b)) ∧
 (((!true) = false) ∧
 ((!false) = true))))) ∧
 (((((false = true) = False) ∧
 (∀ (b : Bool), (false || b) = b)) ∧
 ((∀ (b : Bool), (true || b) = true) ∧
 (∀ (b : Bool), (b || false) = b))) ∧
 (((∀ (b : Bool), (b || true) = true) ∧
 (∀ (b : Bool), (b && true) = b)) ∧
 ((∀ (b : Bool), (true && b) = b) ∧
 ((∀ (b : Bool), (b && false) = false) ∧
 (∀ (b : Bool), (false && b) = false)))))))) :=
 ⟨⟨⟨⟨⟨⟨@Bk, @A9⟩, ⟨@CG, @Da⟩⟩, ⟨⟨@FC, @Gk⟩, ⟨@KO, @AM⟩⟩⟩, ⟨⟨⟨@CJ, @K8⟩, ⟨@K9, @Dj⟩⟩, ⟨⟨@HS, @B4⟩, ⟨@Ei, ⟨@Ga, @AL⟩⟩⟩⟩⟩, ⟨⟨⟨⟨@AH, @BF⟩, ⟨@BP, @Ic⟩⟩, ⟨⟨@N5, @P1⟩, ⟨@N4, ⟨@gk_s, @MF⟩⟩⟩⟩, ⟨⟨⟨@MI, @MG⟩, ⟨@MH, @QI⟩⟩, ⟨⟨@Nl, @G9⟩, ⟨@MR, ⟨@MU, @MS⟩⟩⟩⟩⟩⟩, ⟨⟨⟨⟨⟨@MT, @QL⟩, ⟨@MJ, @MM⟩⟩, ⟨⟨@MK, @ML⟩, ⟨@QJ, @MN⟩⟩⟩, ⟨⟨⟨@MQ, @MO⟩, ⟨@MP, @QK⟩⟩, ⟨⟨@Fp, @ET⟩, ⟨@Dn, ⟨@Nu, @J0⟩⟩⟩⟩⟩, ⟨⟨⟨⟨@IT, @Fk⟩, ⟨@DE, @Cx⟩⟩, ⟨⟨@BD, @Ej⟩, ⟨@HQ, ⟨Bool.not_true, Bool.not_false⟩⟩⟩⟩, ⟨⟨⟨@Bool.false_eq_true, @Bool.false_or⟩, ⟨@Bool.true_or, @Bool.or_false⟩⟩, ⟨⟨@Bool.or_true, @Bool.and_true⟩, ⟨@Bool.true_and, ⟨@Bool.and_false, @Bool.false_and⟩⟩⟩⟩⟩⟩⟩
theorem GMc : ((∀ (f : (List Aa → Ab → Out) → Out) (j : List Aa → Ab → Out), AN f j = f j) ∧ (∀ h : Decidable True, @decide True h = true) ∧ (∀ h : Decidable False, @decide False h = false) ∧ (∀ (α : Type) (h : Decidable True) (t e : α), @ite α True h t e = t) ∧ (∀ (α : Type) (h : Decidable False) (t e : α), @ite α False h t e = e)) :=
 ⟨fun _ _ => rfl, fun _ => decide_true _, fun _ => decide_false _, fun _ _ _ _ => if_true _ _, fun _ _ _ _ => if_false _ _⟩
end Go.Gm
namespace Go.Gm
theorem st_cel {H : Ab} {p o : Nat} {cs : List Aa} {v : Aa} (h : H[p]? = some (.cel 0 cs)) (hv : v.isScal = true) (ho : o < cs.length) : Ak 1 (.ptr p 0 o) v H = some (H.set p (.cel 0 (cs.set o v))) := by
 have hc : v.acells = some [v] := by cases v <;> first | rfl | (simp [Aa.isScal] at hv)
 simp only [Ak, AT h, Bk, hc, List.length_singleton]
 rw [if_pos ⟨trivial, by omega⟩, C8 h, show D4 cs o 1 [v] = cs.set o v from by rw [List.set_eq_take_append_cons_drop, if_pos ho]; simp [D4]]
theorem st_agg {H : Ab} {p sz : Nat} {cs ws : List Aa} (h : H[p]? = some (.cel 0 cs)) (hl : cs.length = sz) (hl2 : ws.length = sz) (hs : ws.all Aa.isScal = true) : Ak sz (.ptr p 0 0) (.agg ws) H = some (H.set p (.cel 0 ws)) := by
 simp only [Ak, AT h, Bk, E7 hs, hl, hl2, Nat.zero_add, Nat.le_refl, and_self, if_true, J2 hl, C8 h]
theorem ld_agg {H : Ab} {p sz : Nat} {cs : List Aa} (h : H[p]? = some (.cel 0 cs)) (hl : cs.length = sz) : Ad true sz (.ptr p 0 0) H = some (.agg cs) := by
 simp only [Ad, AT h, Bk, if_true, List.drop_zero, hl, Nat.zero_add, Nat.le_refl]
 rw [List.take_of_length_le (Nat.le_of_eq hl)]
theorem Bv {H : Ab} {p o sz : Nat} {cs : List Aa} (h : H[p]? = some (.cel 0 cs)) : Ad false sz (.ptr p 0 o) H = cs[o]? := by
 simp only [Ad, AT h, Bk]; rfl
def PV : Aa → Bool
 | .agg cs => cs.all FH
 | v => FH v
theorem plnT_frz {v : Aa} {H : Ab} {n d : Nat} (h : PV v = true) : frz H n (d + 3) v = some v := by
 cases v with
 | agg cs =>
  have h' : cs.all FH = true := h
  simp only [frz, Gw h', Option.map_some]
 | _ => exact plnC_frz (d := d + 2) h
theorem Q5 {H : Ab} {n d : Nat} : ∀ {cs : List Aa}, cs.all PV = true → D8 H n (d + 4) cs = some cs
 | [], _ => by simp [D8]
 | c :: cs, h => by
  simp only [List.all_cons, Bool.and_eq_true] at h
  simp [D8, plnT_frz h.1, Q5 h.2]
theorem rP_aggP {H G : Ab} {cs : List Aa} (h : cs.all FH = true) : rP H (.agg cs) (H ++ G) = some (.ret (.agg cs), H) := by
 rw [rP_eq _ (by simp)]
 simp only [frz, Gw h, Option.map_some]
theorem rP_tupP {H G : Ab} {cs : List Aa} (h : cs.all PV = true) : rP H (.tup cs) (H ++ G) = some (.ret (.tup cs), H) := by
 rw [rP_eq _ (by simp)]
 simp only [frz, Q5 h, Option.map_some]
theorem Ko {g o : Nat} {v : Aa} {cs : List Aa} {G : Ab} (hv : v.isScal = true) (h : o < cs.length) : Ak 1 (.ptr 0 g o) v (.cel g cs :: G) = some (.cel g (cs.set o v) :: G) := by
 have hc : v.acells = some [v] := by cases v <;> first | rfl | (simp [Aa.isScal] at hv)
 rw [O5, hc]
 simp only [Bk, List.length_singleton]
 rw [if_pos ⟨trivial, by omega⟩, List.set_eq_take_append_cons_drop, if_pos h]
 simp [D4]
theorem store_agg {sz g : Nat} {cs ws : List Aa} {G : Ab} (h : cs.length = sz) (h2 : ws.length = sz) (h3 : ws.all Aa.isScal = true) : Ak sz (.ptr 0 g 0) (.agg ws) (.cel g cs :: G) = some (.cel g ws :: G) := Ms (E7 h3) h h2
theorem app_app (a b c : Ab) : a ++ b ++ c = a ++ (b ++ c) := List.append_assoc a b c
theorem len_app (a b : Ab) : (a ++ b).length = a.length + b.length := List.length_append
theorem Cb (x : Aa) (b : List Aa) : (x :: b)[0]? = some x := (rfl)
theorem DI (x : Aa) (b : List Aa) (i : Nat) : (x :: b)[i + 1]? = b[i]? := (rfl)
def FR (x : Nd) : List Aa := [.int .i64 x.k0, .int .i64 x.k1, .int .i64 x.k2, .int .i64 x.k3]
theorem ld_kids (x : Nd) (H : Ab) : Ad true 4 (.cptr (cNd x) 1) H = some (.agg (FR x)) := (rfl)
theorem ag_kid (x : Nd) {k : Nat} (hk : k < 4) (K : IntKind) : JX false 4 1 (.agg (FR x)) (.int K (k : Int)) = some (.int .i64 (x.kid k)) := by
 match k, hk with
 | 0, _ => rfl
 | 1, _ => rfl
 | 2, _ => rfl
 | 3, _ => rfl
theorem Dt (g : Nat) (x : Nd) (G : Ab) : Ad true 4 (.ptr 0 g 1) (.cel g (cNd x) :: G) = some (.agg (FR x)) := by
 rw [show Ad true 4 (.ptr 0 g 1) (.cel g (cNd x) :: G) = if 1 + 4 ≤ (cNd x).length then some (.agg (((cNd x).drop 1).take 4)) else none from by simp only [Ad, JY]; rfl]
 rfl
theorem Dz (x : Nd) : (cNd x).length = 5 := (rfl)
theorem HPa : (((∀ (H G : Ab) (a : Bool) (sz k g o : Nat), Ad a sz (.ptr (H.length + k) g o) (H ++ G) = Ad a sz (.ptr k g o) G) ∧
  (∀ (H G : Ab) (a : Bool) (sz g o : Nat), Ad a sz (.ptr H.length g o) (H ++ G) = Ad a sz (.ptr 0 g o) G)) ∧
  ((∀ (b : Blk) (G : Ab) (a : Bool) (sz k g o : Nat), Ad a sz (.ptr (k + 1) g o) (b :: G) = Ad a sz (.ptr k g o) G) ∧
  (∀ (cs : List Aa) (G : Ab) (sz g o : Nat), Ad false sz (.ptr 0 g o) (.cel g cs :: G) = cs[o]?) ∧
  (∀ (cs : List Aa) (G : Ab) (sz g : Nat), cs.length = sz → Ad true sz (.ptr 0 g 0) (.cel g cs :: G) = some (.agg cs)))) ∧
 (((∀ (H G : Ab) (v : Aa) (sz k g o : Nat), Ak sz (.ptr (H.length + k) g o) v (H ++ G) = (Ak sz (.ptr k g o) v G).map (H ++ ·)) ∧
  (∀ (H G : Ab) (v : Aa) (sz g o : Nat), Ak sz (.ptr H.length g o) v (H ++ G) = (Ak sz (.ptr 0 g o) v G).map (H ++ ·))) ∧
  ((∀ (b : Blk) (G : Ab) (v : Aa) (sz k g o : Nat), Ak sz (.ptr (k + 1) g o) v (b :: G) = (Ak sz (.ptr k g o) v G).map (b :: ·)) ∧
  (∀ (cs : List Aa) (G : Ab) (v : Aa) (g o : Nat), v.isScal = true → o < cs.length → Ak 1 (.ptr 0 g o) v (.cel g cs :: G) = some (.cel g (cs.set o v) :: G)) ∧
  (∀ (cs ws : List Aa) (G : Ab) (sz g : Nat), cs.length = sz → ws.length = sz → ws.all Aa.isScal = true → Ak sz (.ptr 0 g 0) (.agg ws) (.cel g cs :: G) = some (.cel g ws :: G)))) ∧
 ((∀ (cs : List Aa) (H : Ab), cs.all Aa.isScal = true → AC (some cs) H = some (.ptr H.length 0 0, H ++ [.cel 0 cs])) ∧
  (∀ (cs : List Aa) (H : Ab) (sz : Nat), cs.all Aa.isScal = true → cs.length = sz → Eh true sz (.agg cs) H = some (.ptr H.length 0 0, H ++ [.cel 0 cs]))) :=
 ⟨⟨⟨fun _ _ _ _ _ _ _ => load_app, fun _ _ _ _ _ _ => G2⟩, fun _ _ _ _ _ _ _ => load_succ, fun _ _ _ _ _ => M7, fun _ _ _ _ h => Pg h⟩,
  ⟨⟨fun _ _ _ _ _ _ _ => Qr, fun _ _ _ _ _ _ => Fu⟩, fun _ _ _ _ _ _ _ => store_succ, fun _ _ _ _ _ h1 h2 => Ko h1 h2, fun _ _ _ _ _ h1 h2 h3 => store_agg h1 h2 h3⟩,
  fun _ _ h => alloc_eq h, fun _ _ _ h1 h2 => FZ h1 h2⟩
theorem HPc : (((∀ (K : IntKind) (n : Int), (Aa.int K n).isScal = true) ∧ (∀ t : Bool, (Aa.bool t).isScal = true) ∧ (∀ s : List UInt8, (Aa.str s).isScal = true)) ∧
  ((∀ (es : List (List Aa)) (tk : Tok), (Aa.sl es tk).isScal = true) ∧ (∀ (id g off len cap sz : Nat) (ex : Bool), (Aa.ms id g off len cap sz ex).isScal = true) ∧ (∀ id g off : Nat, (Aa.ptr id g off).isScal = true)) ∧
  (∀ id : Nat, (Aa.mp id).isScal = true) ∧ (∀ (f : FuncId) (c : List Aa), (Aa.fn f c).isScal = true) ∧ (Aa.nilp.isScal = true) ∧ (Aa.nilmap.isScal = true) ∧ Aa.nilfn.isScal = true) ∧
 (((∀ (K : IntKind) (n : Int), FH (Aa.int K n) = true) ∧ (∀ t : Bool, FH (Aa.bool t) = true) ∧ (∀ s : List UInt8, FH (Aa.str s) = true)) ∧
  ((∀ (es : List (List Aa)), FH (Aa.sl es .no) = true) ∧ (∀ (es : List (List Aa)), FH (Aa.sl es .tight) = true)) ∧
  ((∀ (K : IntKind) (n : Int), PV (Aa.int K n) = true) ∧ (∀ t : Bool, PV (Aa.bool t) = true) ∧ (∀ s : List UInt8, PV (Aa.str s) = true)) ∧
  ((∀ (es : List (List Aa)), PV (Aa.sl es .no) = true) ∧ (∀ (es : List (List Aa)), PV (Aa.sl es .tight) = true)) ∧ (∀ cs : List Aa, PV (.agg cs) = cs.all FH)) ∧
 ((∀ (H G : Ab) (cs : List Aa), cs.all FH = true → rP H (.agg cs) (H ++ G) = some (.ret (.agg cs), H)) ∧
  (∀ (H G : Ab) (cs : List Aa), cs.all PV = true → rP H (.tup cs) (H ++ G) = some (.ret (.tup cs), H)) ∧
  (∀ (H G : Ab) (t : Bool), rP H (.bool t) (H ++ G) = some (.ret (.bool t), H)) ∧
  (∀ (H G : Ab) (K : IntKind) (n : Int), rP H (.int K n) (H ++ G) = some (.ret (.int K n), H)) ∧
  (∀ (H G : Ab) (s : List UInt8), rP H (.str s) (H ++ G) = some (.ret (.str s), H))) :=
 ⟨⟨⟨fun _ _ => rfl, fun _ => rfl, fun _ => rfl⟩, ⟨fun _ _ => rfl, fun _ _ _ _ _ _ _ => rfl, fun _ _ _ => rfl⟩, fun _ => rfl, fun _ _ => rfl, rfl, rfl, rfl⟩,
  ⟨⟨fun _ _ => rfl, fun _ => rfl, fun _ => rfl⟩, ⟨fun _ => rfl, fun _ => rfl⟩, ⟨fun _ _ => rfl, fun _ => rfl, fun _ => rfl⟩, ⟨fun _ => rfl, fun _ => rfl⟩, fun _ => rfl⟩,
  fun _ _ _ h => rP_aggP h, fun _ _ _ h => rP_tupP h, fun _ _ _ => LF, fun _ _ _ _ => OE, fun _ _ _ => rP_str⟩
theorem HPd : ((∀ (H G : Ab) (v : Aa), rPN H v (H ++ G) = (ER (H ++ G) H.length 8 v).map fun v => (.ret v, H)) ∧
  (∀ (H : Ab) (n d : Nat) (vs : List Aa), ER H n (d + 1) (.tup vs) = (F3 H n d vs).map .tup) ∧
  (∀ (H : Ab) (n d : Nat) (cs : List Aa), ER H n (d + 1) (.agg cs) = (D9 H n d cs).map .agg) ∧
  (∀ (H : Ab) (n d : Nat) (es : List (List Aa)) (tk : Tok), ER H n (d + 1) (.sl es tk) = some (.sl es .no))) ∧
 ((∀ (H : Ab) (n d : Nat), F3 H n (d + 1) [] = some []) ∧
  (∀ (H : Ab) (n d : Nat) (v : Aa) (vs : List Aa), F3 H n (d + 1) (v :: vs) = (Ec H n d v).bind fun v' => (F3 H n (d + 1) vs).map (v' :: ·)) ∧
  (∀ (H : Ab) (n d : Nat), D9 H n (d + 1) [] = some []) ∧
  (∀ (H : Ab) (n d : Nat) (v : Aa) (vs : List Aa), D9 H n (d + 1) (v :: vs) = (F5 H n d v).bind fun v' => (D9 H n (d + 1) vs).map (v' :: ·))) ∧
 ((∀ (H : Ab) (n d : Nat) (cs : List Aa), Ec H n (d + 1) (.agg cs) = (D9 H n d cs).map .agg) ∧
  (∀ (H : Ab) (n d : Nat) (K : IntKind) (i : Int), Ec H n (d + 1) (.int K i) = some (.int K i)) ∧
  (∀ (H : Ab) (n d : Nat) (t : Bool), Ec H n (d + 1) (.bool t) = some (.bool t)) ∧
  (∀ (H : Ab) (n d : Nat) (s : List UInt8), Ec H n (d + 1) (.str s) = some (.str s)) ∧
  (∀ (H : Ab) (n d : Nat) (es : List (List Aa)) (tk : Tok), Ec H n (d + 1) (.sl es tk) = some (.sl es .no))) ∧
 ((∀ (H : Ab) (n d : Nat) (K : IntKind) (i : Int), F5 H n (d + 1) (.int K i) = some (.int K i)) ∧
  (∀ (H : Ab) (n d : Nat) (t : Bool), F5 H n (d + 1) (.bool t) = some (.bool t)) ∧
  (∀ (H : Ab) (n d : Nat) (s : List UInt8), F5 H n (d + 1) (.str s) = some (.str s)) ∧
  (∀ (H : Ab) (n d : Nat) (es : List (List Aa)) (tk : Tok), F5 H n (d + 1) (.sl es tk) = some (.sl es .no))) ∧
 ((∀ xs : List (Option Aa), KG xs = (PU xs).map .tup) ∧ (PU [] = some []) ∧ (∀ (x : Option Aa) (xs : List (Option Aa)), PU (x :: xs) = x.bind fun v => (PU xs).map (v :: ·))) ∧
 ((∀ (v : Aa) (vs : List Aa), An 0 (.tup (v :: vs)) = some v) ∧ (∀ (v w : Aa) (vs : List Aa), An 1 (.tup (v :: w :: vs)) = some w) ∧ (∀ (v w u : Aa) (vs : List Aa), An 2 (.tup (v :: w :: u :: vs)) = some u)) :=
 ⟨⟨fun _ _ _ => D0, fun _ _ _ _ => EI, fun _ _ _ _ => fall_agg, fun _ _ _ _ _ => K3⟩, ⟨fun _ _ _ => CU, fun _ _ _ _ _ => Ct, fun _ _ _ => Hv, fun _ _ _ _ _ => FX⟩,
  ⟨fun _ _ _ _ => K1, fun _ _ _ _ _ => DJ, fun _ _ _ _ => fpart_bool, fun _ _ _ _ => fpart_str, fun _ _ _ _ _ => JZ⟩, ⟨fun _ _ _ _ _ => fcell_int, fun _ _ _ _ => P7, fun _ _ _ _ => fcell_str, fun _ _ _ _ _ => LZ⟩,
  ⟨fun _ => rfl, rfl, fun _ _ => rfl⟩, fun _ _ => rfl, fun _ _ _ => rfl, fun _ _ _ _ => rfl⟩
theorem HPe : (∀ (H : Ab) (j k : Nat), List.length H + j + k = List.length H + (j + k)) ∧ (∀ (H0 H : Ab) (v : Aa) (k : Aa → Ab → Out), bK H0 (some (.pan v, H)) k = some (.pan v, H)) ∧ (∀ (α β : Type) (a : α) (f : α → β), Option.map f (some a) = some (f a)) ∧ (∀ id g o : Nat, Ae (.ptr id g o) = some (.ptr id g o)) ∧ (∀ off id g o : Nat, Ac off (.ptr id g o) = some (.ptr id g (o + off))) ∧
 ((∀ a b c : Ab, a ++ b ++ c = a ++ (b ++ c)) ∧ (∀ (x : Blk) (b c : Ab), (x :: b) ++ c = x :: (b ++ c)) ∧ (∀ b : Ab, ([] : Ab) ++ b = b) ∧ (∀ a b : Ab, (a ++ b).length = a.length + b.length) ∧ (∀ (x : Blk) (b : Ab), (x :: b).length = b.length + 1) ∧ (([] : Ab).length = 0)) ∧
 ((∀ (x : Aa) (b : List Aa), (x :: b).length = b.length + 1) ∧ (([] : List Aa).length = 0) ∧ (∀ (x : Aa) (b : List Aa), (x :: b)[0]? = some x) ∧ (∀ (x : Aa) (b : List Aa) (i : Nat), (x :: b)[i + 1]? = b[i]?)) ∧
 ((∀ (x y : Aa) (b : List Aa), (x :: b).set 0 y = y :: b) ∧ (∀ (x y : Aa) (b : List Aa) (i : Nat), (x :: b).set (i + 1) y = x :: b.set i y) ∧ (∀ (p : Aa → Bool) (x : Aa) (b : List Aa), (x :: b).all p = (p x && b.all p)) ∧ (∀ p : Aa → Bool, ([] : List Aa).all p = true)) ∧
 (∀ s : List UInt8, Bx (.str s) = some (.int .i64 (s.length : Int))) :=
 ⟨fun _ _ _ => Nat.add_assoc _ _ _, fun _ _ _ _ => rfl, fun _ _ _ _ => rfl, fun _ _ _ => rfl, fun _ _ _ _ => rfl, ⟨app_app, fun _ _ _ => rfl, fun _ => rfl, len_app, fun _ _ => rfl, rfl⟩, ⟨fun _ _ => rfl, rfl, fun _ _ => rfl, fun _ _ _ => rfl⟩, ⟨fun _ _ _ => rfl, fun _ _ _ _ => rfl, fun _ _ _ => rfl, fun _ => rfl⟩, fun _ => rfl⟩
theorem HPz : ((∀ n : Nat, 0 + n = n) ∧ (∀ n : Nat, n + 0 = n) ∧ (∀ p : Prop, (p ∧ p) = p) ∧ (∀ p : Prop, (p ∧ True) = p) ∧ (∀ (α : Type) (a : α), (a = a) = True) ∧ (∀ b : Bool, (b && b) = b)) :=
 ⟨Nat.zero_add, Nat.add_zero, and_self, and_true, fun _ a => eq_self a, Bool.and_self⟩
end Go.Gm
namespace Go.Gm
def BH (L : List Nd) (i : Nat) (x : Nd) (c : Int) : Bool :=
 decide (0 ≤ c) && (decide (x.lv = 1 → c ≤ 255)) && decide (1 < x.lv → 0 < c → c ≤ i ∧ ∀ y, L[(c - 1).toNat]? = some y → y.lv = x.lv - 1)
def Dp (L : List Nd) (i : Nat) : Bool :=
 match L[i]? with
 | some x => decide (1 ≤ x.lv ∧ x.lv ≤ 1329) && (List.range 4).all fun k => BH L i x (x.kid k)
 | none => true
def Az (L : List Nd) : Bool := (List.range L.length).all (Dp L)
theorem M0 (L : List Nd) (tk : Tok) (H : Ab) (hL : L.length < 1152921504606846976) : Sh.f3 (.sl (enL cNd L) tk) H = some (.ret (.bool (Az L)), H) := by
 unfold Sh.f3
 rw [show Az L = (List.range L.length).all (Dp L) from rfl]
 have := Dr L.length (Dp L) (fun i => [.sl (enL cNd L) tk, .int .i64 (i : Int)]) H (some (.ret (.bool true), H)) (some (.ret (.bool false), H)) hL (fun rec i hi => ?_) (fun rec => ?_)
  (G := fun rec1 vs H1 => Sh.f3e H rec1 (ag vs 0) (ag vs 1) H1)
 ·refine this.trans ?_
  cases (List.range L.length).all (Dp L) <;> rfl
 ·have hx : (i : Int) < (L.length : Int) := by omega
  have hg : L[i]? = some L[i] := List.getElem?_eq_getElem hi
  unfold Sh.f3e
  simp only [A9, CG, A2, Bk, AM, hx, decide_true, AL, Av hi, Ah, As, Nat.add_zero, Bc]
  by_cases h1 : L[i].lv < 1
  ·have : Dp L i = false := by simp only [Dp, hg]; simp; intro; omega
   simp [h1, this]
  ·by_cases h2 : L[i].lv > 1329
   ·have : Dp L i = false := by simp only [Dp, hg]; simp; intro; omega
    simp [h1, h2, this, Av hi]
   ·have hd : Dp L i = (List.range 4).all fun k => BH L i L[i] (L[i].kid k) := by
     simp only [Dp, hg]; rw [decide_eq_true (by omega)]; rfl
    simp only [h1, h2, decide_false, N5, Bk, CJ, BP, AH, hd, As, Nat.add_zero, Bc, Ah, Av hi]
    have := Dr 4 (fun k => BH L i L[i] (L[i].kid k)) (fun k => [.sl (enL cNd L) tk, .int .i64 (i : Int), .int .i64 (k : Int)]) H (rec [.sl (enL cNd L) tk, .int .i64 ((i + 1 : Nat) : Int)] H) (some (.ret (.bool false), H)) (by decide) (fun rec2 k hk => ?_) (fun rec2 => ?_)
     (G := fun rec2 vs H1 => Sh.f3d H rec rec2 (ag vs 0) (ag vs 1) (ag vs 2) H1)
    ·exact this
    ·have hk' : (k : Int) < 4 := by omega
     unfold Sh.f3d
     simp only [A9, CG, Da, Bk, AM, hk', decide_true, AL, Av hi, Ah, C0 hk, As, Nat.zero_add, Nat.mul_one, Cm hk, Bc, Au (show k < 9223372036854775807 by omega), B4, Dj, CJ]
     generalize L[i].kid k = c
     generalize hx' : L[i] = x at h1 h2 ⊢
     by_cases hc : c < 0
     ·have : BH L i x c = false := by simp [BH]; omega
      simp [hc, this, Av hi, hx']
     ·obtain ⟨n, rfl⟩ := Int.eq_ofNat_of_zero_le (show 0 ≤ c by omega)
      by_cases hl : x.lv = 1
      ·by_cases h255 : 255 < n
       ·have : BH L i x n = false := by simp [BH, hl]; omega
        have h256 : (255 : Int) < n := by omega
        simp [hc, hl, h255, h256, this, Av hi, hx']
       ·have : BH L i x n = true := by simp [BH, hl]; omega
        have h256 : ¬ (255 : Int) < n := by omega
        simp [hc, hl, h255, h256, this, Av hi, hx']
      ·have hl1 : 1 < x.lv := by omega
       by_cases hn : 0 < n
       ·by_cases hni : i < n
        ·have : BH L i x n = false := by
          unfold BH
          rw [Bool.and_eq_false_iff]; right
          rw [decide_eq_false_iff_not]; intro h; have := (h hl1 (by omega)).1; omega
         simp [hc, hl, hl1, hn, hni, this, Av hi, hx']
        ·have hlt : n - 1 < L.length := by omega
         have e1 : ((n : Int) - 1).toNat = n - 1 := by omega
         have hk2 : BH L i x n = decide (L[n - 1].lv = x.lv - 1) := by
          unfold BH
          rw [e1, List.getElem?_eq_getElem hlt, Bool.eq_iff_iff]
          simp only [Bool.and_eq_true, decide_eq_true_eq, Option.some.injEq, forall_eq']
          constructor
          ·intro h; exact (h.2 hl1 (by omega)).2
          ·intro h; exact ⟨⟨by omega, by omega⟩, fun _ _ => ⟨by omega, h⟩⟩
         have hw : IntKind.i64.wrap (x.lv - 1) = x.lv - 1 := Ay (by omega) (by omega)
         simp [hc, hl, hl1, hn, hni, hk2, Db (show 0 < n by omega) (by omega), Av hlt, Av hi, hx', hw]
         by_cases he : L[n - 1].lv = x.lv - 1 <;> simp [he]
       ·have : BH L i x n = true := by
         unfold BH
         simp only [Bool.and_eq_true, decide_eq_true_eq]
         exact ⟨⟨by omega, by omega⟩, fun _ _ => by omega⟩
        simp [hc, hl, hl1, hn, this, Av hi, hx']
    ·unfold Sh.f3d
     simp [Au (show i < 9223372036854775807 by omega)]
 ·unfold Sh.f3e
  simp
end Go.Gm
namespace Go.Gm
theorem A0 {L : List Nd} (h : Az L = true) {i : Nat} (hi : i < L.length) : 1 ≤ L[i].lv ∧ L[i].lv ≤ 1329 ∧ ∀ k, k < 4 → 0 ≤ L[i].kid k ∧ (L[i].lv = 1 → L[i].kid k ≤ 255) ∧ (1 < L[i].lv → 0 < L[i].kid k → L[i].kid k ≤ i ∧ ∀ y, L[(L[i].kid k - 1).toNat]? = some y → y.lv = L[i].lv - 1) := by
 have h1 := List.all_eq_true.1 h i (by simpa using hi)
 simp only [Dp, List.getElem?_eq_getElem hi, Bool.and_eq_true, decide_eq_true_eq, List.all_eq_true] at h1
 refine ⟨h1.1.1, h1.1.2, fun k hk => ?_⟩
 have h2 := h1.2 k (by simpa using hk)
 simp only [BH, Bool.and_eq_true, decide_eq_true_eq] at h2
 exact ⟨h2.1.1, h2.1.2, h2.2⟩
def Lz (E : List Bool) (x : Nd) : Bool := (List.range 4).all fun k => decide (x.kid k = 0) || (decide (1 < x.lv) && E.getD (x.kid k).toNat true)
def Ap (L : List Nd) : List Bool := L.foldl (fun E x => E ++ [Lz E x]) [true]
theorem G8 (L : List Nd) (x : Nd) : Ap (L ++ [x]) = Ap L ++ [Lz (Ap L) x] := by simp [Ap]
theorem BY (L : List Nd) : (Ap L).length = L.length + 1 := by
 rcases Le L with rfl | ⟨l, a, rfl⟩
 ·rfl
 ·rw [G8]; have := BY l; simp [this]
termination_by L.length
decreasing_by (subst_vars; simp)
theorem QU (L : List Nd) {i : Nat} (hi : i < L.length) : Ap (L.take (i + 1)) = Ap (L.take i) ++ [Lz (Ap (L.take i)) L[i]] := by
 rw [List.take_succ_eq_append_getElem hi, G8]
theorem FO (L : List Nd) (tk : Tok) (H : Ab) (hL : L.length < 140737488355327) (hl : Az L = true) : Sh.f6 (.sl (enL cNd L) tk) H = some (.ret (.sl (enL cB (Ap L)) .no), H) := by
 have hmk := Fm (f := cB) (a := false) (n := L.length + 1) (bytes := 1) (H := H) (by omega) (by omega)
 have hid := DZ (sz := 1) (id := H.length) (n := L.length + 1) (K := .i64) (g := 0) (off := 0) (cap := L.length + 1) (ex := true) (i := 0) (by omega)
 have hst := Ft (f := cB) (sz := 1) (l := List.replicate (L.length + 1) false) (i := 0) (a := true) (v := .bool true) (H := H ++ [.cel 0 (flat cB (List.replicate (L.length + 1) false))]) (id := H.length) (by simp) (by simp) rfl
 unfold Sh.f6
 simp only [A2, Bk, B4, Au (show L.length < 9223372036854775807 by omega), hmk, BD]
 simp only [Nat.zero_mul, Nat.add_zero] at hid
 rw [show ((0 : Nat) : Int) = 0 from rfl] at hid
 simp only [Nat.zero_mul] at hst
 rw [hid]
 simp only [Bk, hst, DE, Dn, Qz, Qx]
 have key := BM (G := fun rec1 vs H1 => Sh.f3g H rec1 (ag vs 0) (ag vs 1) (ag vs 2) H1) L.length (fun i => [.sl (enL cNd L) tk, .ms H.length 0 0 (L.length + 1) (L.length + 1) 1 true, .int .i64 (i : Int)]) (fun i => H ++ [.cel 0 (flat cB (Ap (L.take i) ++ List.replicate (L.length - i) false))]) (some (.ret (.sl (enL cB (Ap L)) .no), H)) (by omega) (fun rec i hi => ?_) (fun rec => ?_)
 ·have e : (List.replicate (L.length + 1) false).set 0 true = Ap (L.take 0) ++ List.replicate (L.length - 0) false := by simp [List.replicate_succ, Ap]
  rw [e]; exact key
 ·have hi' : (i : Int) < (L.length : Int) := by omega
  obtain ⟨l1, l2, l3⟩ := A0 hl hi
  have hEl : (Ap (L.take i)).length = i + 1 := by rw [BY]; simp; omega
  unfold Sh.f3g
  simp only [A9, CG, Da, A2, Bk, AM, hi', decide_true, AL]
  have hs : ∀ k, k < 4 → 1 < L[i].lv → (Ap (L.take i) ++ List.replicate (L.length - i) false).getD (L[i].kid k).toNat true = (Ap (L.take i)).getD (L[i].kid k).toNat true := by
   intro k hk h1
   obtain ⟨q1, q2, q3⟩ := l3 k hk
   have : (L[i].kid k).toNat < (Ap (L.take i)).length := by
    rw [hEl]
    by_cases h0 : 0 < L[i].kid k
    ·have := (q3 h1 h0).1; omega
    ·omega
   simp only [List.getD_eq_getElem?_getD, List.getElem?_append_left this]
  have hb : ∀ k, k < 4 → 1 < L[i].lv → (L[i].kid k).toNat < L.length + 1 := by
   intro k hk h1
   obtain ⟨q1, q2, q3⟩ := l3 k hk
   by_cases h0 : 0 < L[i].kid k
   ·have := (q3 h1 h0).1; omega
   ·omega
  have hEs : Lz (Ap (L.take i)) L[i] = (List.range 4).all fun k => decide (L[i].kid k = 0) || (decide (1 < L[i].lv) && (Ap (L.take i) ++ List.replicate (L.length - i) false).getD (L[i].kid k).toNat true) := by
   unfold Lz
   rw [Lh, Lh]
   by_cases h1 : 1 < L[i].lv
   ·simp only [hs 0 (by omega) h1, hs 1 (by omega) h1, hs 2 (by omega) h1, hs 3 (by omega) h1]
   ·simp only [h1, decide_false, Bool.false_and]
  have hset : (Ap (L.take i) ++ List.replicate (L.length - i) false).set (i + 1) (Lz (Ap (L.take i)) L[i]) = Ap (L.take (i + 1)) ++ List.replicate (L.length - (i + 1)) false := by
   rw [QU L hi, List.set_append_right _ _ (by omega), hEl, Nat.sub_self, show L.length - i = (L.length - (i + 1)) + 1 from by omega, List.replicate_succ, List.set_cons_zero]
   simp
  have hlen : (Ap (L.take i) ++ List.replicate (L.length - i) false).length = L.length + 1 := by simp [hEl]; omega
  rw [← hset, hEs]
  generalize Ap (L.take i) ++ List.replicate (L.length - i) false = E at hlen
  generalize hx : L[i] = x at l1 l2 l3 hb
  have hgc : A4 (H ++ [.cel 0 (flat cB E)]) H.length 0 = some (flat cB E) := by simp
  refine BM (G := fun rec2 vs H1 => Sh.f3f H rec rec2 (ag vs 0) (ag vs 1) (ag vs 2) (ag vs 3) (ag vs 4) H1) 4 (fun k => [.sl (enL cNd L) tk, .ms H.length 0 0 (L.length + 1) (L.length + 1) 1 true, .int .i64 (i : Int), .bool ((List.range k).all fun k => decide (x.kid k = 0) || (decide (1 < x.lv) && E.getD (x.kid k).toNat true)), .int .i64 (k : Int)]) (fun _ => H ++ [.cel 0 (flat cB E)]) _ (by decide) (fun rec2 k hk => ?_) (fun rec2 => ?_)
  ·have hk' : (k : Int) < 4 := by omega
   obtain ⟨q1, q2, q3⟩ := l3 k hk
   have hb' := hb k hk
   unfold Sh.f3f
   have hsucc : ((List.range (k + 1)).all fun k => decide (x.kid k = 0) || (decide (1 < x.lv) && E.getD (x.kid k).toNat true)) = (((List.range k).all fun k => decide (x.kid k = 0) || (decide (1 < x.lv) && E.getD (x.kid k).toNat true)) && (decide (x.kid k = 0) || (decide (1 < x.lv) && E.getD (x.kid k).toNat true))) := by
    rw [List.range_succ, List.all_append]; simp
   rw [hsucc]
   generalize ((List.range k).all fun k => decide (x.kid k = 0) || (decide (1 < x.lv) && E.getD (x.kid k).toNat true)) = e
   simp only [A9, CG, Da, FC, Gk, Bk, AM, hk', decide_true, AL, Av hi, hx, Ah, C0 hk, As, Nat.zero_add, Nat.mul_one, Cm hk, Bc, Au (show k < 9223372036854775807 by omega), B4, Dj, CJ]
   obtain ⟨n, hn⟩ := Int.eq_ofNat_of_zero_le q1
   rw [hn] at hb' ⊢
   simp only [Int.toNat_natCast] at hb' ⊢
   cases e with
   | false => simp
   | true =>
    by_cases h0 : n = 0
    ·subst h0; simp
    ·by_cases h1 : 1 < x.lv
     ·have hnE : n < E.length := by rw [hlen]; exact hb' h1
      have hid2 := DZ (sz := 1) (id := H.length) (n := L.length + 1) (K := .i64) (g := 0) (off := 0) (cap := L.length + 1) (ex := true) (i := n) (hb' h1)
      simp only [Nat.zero_add, Nat.mul_one] at hid2
      have hld := Hm (f := cB) hgc hnE
      simp [h0, h1, hx, Av hi, hid2, hld, List.getElem?_eq_getElem hnE]
     ·simp [h0, h1, hx, Av hi]
  ·have hid2 := DZ (sz := 1) (id := H.length) (n := L.length + 1) (K := .i64) (g := 0) (off := 0) (cap := L.length + 1) (ex := true) (i := i + 1) (by omega)
   simp only [Nat.zero_add, Nat.mul_one] at hid2
   have hst2 := Ft (f := cB) (sz := 1) (l := E) (i := i + 1) (a := (List.range 4).all fun k => decide (x.kid k = 0) || (decide (1 < x.lv) && E.getD (x.kid k).toNat true)) (H := H ++ [.cel 0 (flat cB E)]) (id := H.length) hgc (by omega) (v := .bool ((List.range 4).all fun k => decide (x.kid k = 0) || (decide (1 < x.lv) && E.getD (x.kid k).toNat true))) rfl
   simp only [Nat.mul_one] at hst2
   unfold Sh.f3f
   have hf : ¬ (((4 : Nat) : Int) < 4) := by decide
   simp only [A9, CG, Da, FC, Gk, Bk, AM, hf, decide_false, AH, B4, Au (show i < 9223372036854775807 by omega), hid2, hst2, DE, Dn, Qz, Qx]
 ·unfold Sh.f3g
  have hgc : A4 (H ++ [.cel 0 (flat cB (Ap L))]) H.length 0 = some (flat cB (Ap L)) := by simp
  have hfa := fall_ms (f := cB) (b := H.length) (d := 5) (cap := L.length + 1) (ex := true) hgc (Nat.le_refl _)
  rw [BY] at hfa
  have ht : L.take L.length = L := List.take_of_length_le (Nat.le_refl _)
  simp only [A9, CG, Da, A2, Bk, AM, Int.lt_irrefl, decide_false, AH, ht, Nat.sub_self, List.replicate_zero, List.append_nil, D0, hfa, Option.map_some]
theorem Q3 (L : List Nd) (tk : Tok) (n : Nat) (H : Ab) (hL : L.length < 140737488355327) (hl : Az L = true) (hn : n ≤ L.length) : Sh.f2c (.sl (enL cNd L) tk) (.int .i64 (n : Int)) H = some (.ret (.bool ((Ap L).getD n true)), H) := by
 have hlt : n < (Ap L).length := by rw [BY]; omega
 unfold Sh.f2c
 simp [FO L tk H hL hl, Av hlt, List.getD_eq_getElem?_getD, List.getElem?_eq_getElem hlt]
end Go.Gm
namespace Go.Gm
def At (L : List Nd) (c : Int) : Nd := L.getD (c - 1).toNat ⟨0, 0, 0, 0, 0⟩
def Py (L : List Nd) (E : List Bool) (x : Nd) (k j : Nat) : Bool :=
 decide (j = 3 - k) || (if x.lv = 2 then decide ((At L (x.kid k)).kid j = 0) else E.getD ((At L (x.kid k)).kid j).toNat true)
def hol (L : List Nd) (E : List Bool) (x : Nd) : Bool :=
 (List.range 4).all fun k => decide (x.kid k = 0) || (List.range 4).all (Py L E x k)
def CI (L : List Nd) (n : Nat) : Bool :=
 decide (n ≠ 0) && decide (2 ≤ (At L n).lv) && hol L (Ap L) (At L n)
theorem BE {L : List Nd} {c : Int} {n : Nat} (hc : c = ((n + 1 : Nat) : Int)) (h : n < L.length) : At L c = L[n] := by
 have : (c - 1).toNat = n := by omega
 unfold At; rw [this, List.getD_eq_getElem?_getD, List.getElem?_eq_getElem h]; rfl
theorem OG (L : List Nd) (tk : Tok) (n : Nat) (H : Ab) (hL : L.length < 140737488355327) (hl : Az L = true) (hn : n ≤ L.length) : Sh.fs (.sl (enL cNd L) tk) (.int .i64 (n : Int)) H = some (.ret (.bool (CI L n)), H) := by
 unfold Sh.fs CI
 cases n with
 | zero => simp
 | succ n =>
  have hi : n < L.length := hn
  have e0 : ¬ ((n + 1 : Nat) : Int) = 0 := by omega
  obtain ⟨l1, l2, l3⟩ := A0 hl hi
  rw [BE rfl hi]
  generalize hx : L[n] = x at l1 l2 l3
  have hw : IntKind.i64.wrap (((n + 1 : Nat) : Int) - 1) = (n : Int) := by rw [Ay] <;> omega
  simp only [Dj, Ej, e0, decide_false, Bk, N5, Ei, hw, Av hi, hx, Ah, As, Nat.add_zero, Bc, AM, BP]
  by_cases h2 : x.lv < 2
  ·have : ¬ 2 ≤ x.lv := by omega
   simp [h2, this]
  ·have h2' : 2 ≤ x.lv := by omega
   simp only [h2, h2', decide_false, AH, FO L tk H hL hl, ET, decide_true, ne_eq, Nat.succ_ne_zero, not_false_eq_true, Bool.true_and]
   have key := Dr (G := fun rec1 vs H1 => Sh.f3h H rec1 (ag vs 0) (ag vs 1) (ag vs 2) (ag vs 3) H1) 4 (fun k => decide (x.kid k = 0) || (List.range 4).all (Py L (Ap L) x k))
    (fun k => [.sl (enL cNd L) tk, .int .i64 ((n + 1 : Nat) : Int), .sl (enL cB (Ap L)) .no, .int .i64 (k : Int)]) H (some (.ret (.bool true), H)) (some (.ret (.bool false), H)) (by decide) (fun rec k hk => ?_) (fun rec => ?_)
   ·refine key.trans ?_
    rw [show hol L (Ap L) x = (List.range 4).all fun k => decide (x.kid k = 0) || (List.range 4).all (Py L (Ap L) x k) from rfl]
    cases (List.range 4).all fun k => decide (x.kid k = 0) || (List.range 4).all (Py L (Ap L) x k) <;> rfl
   ·have hk' : (k : Int) < 4 := by omega
    obtain ⟨q1, q2, q3⟩ := l3 k hk
    unfold Sh.f3h
    simp only [A9, CG, Da, FC, Bk, AM, hk', decide_true, AL, Ei, hw, Av hi, hx, Ah, C0 hk, As, Nat.zero_add, Nat.mul_one, Cm hk]
    have hws : IntKind.i64.wrap ((k : Int) + 1) = ((k + 1 : Nat) : Int) := Au (by omega)
    by_cases hc : x.kid k = 0
    ·rw [Q8 fuel_pos]
     unfold Sh.f2m
     simp only [hc, decide_true, Bool.true_or, if_true, A9, CG, Da, FC, Gk, KO, AM, Bk, show ((0 : Int) < 4) from by decide, Ic, CJ, show ¬ ((0 : Int) > 0) from by decide, decide_false, BF, AH, B4, hws]
    ·obtain ⟨m, hm⟩ : ∃ m : Nat, x.kid k = ((m + 1 : Nat) : Int) := ⟨(x.kid k - 1).toNat, by omega⟩
     have h1 : 1 < x.lv := by omega
     obtain ⟨r1, r2⟩ := q3 h1 (by omega)
     have hmn : m < n := by omega
     have hml : m < L.length := by omega
     have hy := r2 L[m] (by rw [show (x.kid k - 1).toNat = m from by omega]; exact List.getElem?_eq_getElem hml)
     obtain ⟨y1, y2, y3⟩ := A0 hl hml
     have hE : ∀ j, j < 4 → 2 < x.lv → (L[m].kid j).toNat < (Ap L).length := by
      intro j hj h3
      obtain ⟨s1, s2, s3⟩ := y3 j hj
      rw [BY]
      by_cases h0 : 0 < L[m].kid j
      ·have := (s3 (by omega) h0).1; omega
      ·omega
     have hp : Py L (Ap L) x k = fun j => decide (j = 3 - k) || (if x.lv = 2 then decide (L[m].kid j = 0) else (Ap L).getD (L[m].kid j).toNat true) := by
      funext j; unfold Py; rw [BE hm hml]
     have hwm : IntKind.i64.wrap (((m + 1 : Nat) : Int) - 1) = (m : Int) := by rw [Ay] <;> omega
     have hc' : ¬ ((m + 1 : Nat) : Int) = 0 := by omega
     simp only [hp, hm, hc', decide_false, Bool.false_or]
     generalize hyy : L[m] = y at y1 y2 y3 hy hE
     refine Dr (G := fun rec2 vs H1 => Sh.f2m H rec rec2 (ag vs 0) (ag vs 1) (ag vs 2) (ag vs 3) (ag vs 4) (ag vs 5) H1) 4 _
      (fun j => [.sl (enL cNd L) tk, .int .i64 ((n + 1 : Nat) : Int), .sl (enL cB (Ap L)) .no, .int .i64 (k : Int), .int .i64 ((m + 1 : Nat) : Int), .int .i64 (j : Int)]) H _ _ (by decide) (fun rec2 j hj => ?_) (fun rec2 => ?_)
     ·have hj' : (j : Int) < 4 := by omega
      have hm0 : ((m + 1 : Nat) : Int) > 0 := by omega
      have hw3 : IntKind.i64.wrap (3 - (k : Int)) = 3 - (k : Int) := Ay (by omega) (by omega)
      have hjs : IntKind.i64.wrap ((j : Int) + 1) = ((j + 1 : Nat) : Int) := Au (by omega)
      obtain ⟨s1, s2, s3⟩ := y3 j hj
      have hE' := hE j hj
      unfold Sh.f2m
      simp only [A9, CG, Da, FC, Gk, KO, AM, Bk, hj', decide_true, Ic, CJ, hm0, BF, AL, Ei, hw, hwm, hw3, Av hml, hyy, Av hi, hx, Ah, C0 hj, As, Nat.zero_add, Nat.add_zero, Nat.mul_one, Cm hj, Bc, HS, HQ, Dj, Ej, B4, hjs]
      obtain ⟨g, hg⟩ := Int.eq_ofNat_of_zero_le s1
      rw [hg] at hE' ⊢
      simp only [Int.toNat_natCast] at hE' ⊢
      by_cases h3k : j = 3 - k
      ·have h3 : (j : Int) = 3 - (k : Int) := by omega
       simp only [Bk, A9, CG, Da, FC, Gk, KO, AM, CJ, K8, K9, Dj, HS, Ej, HQ, B4, Ei, Ga, AL, AH, BF, BP, Ic, N5, P1, N4, gk_s, MF, MI, MG, MH, QI, Nl, G9, MR, MU, MS, MT, QL, MJ, MM, MK, ML, QJ, MN, MQ, MO, MP, QK, Fp, AN, decide_true, decide_false, Bool.not_true, Bool.not_false, ET, Dn, Nu, J0, IT, if_true, Bool.false_eq_true, if_false, Fk, DE, Cx, BD, Bool.false_or, Bool.true_or, Bool.or_false, Bool.or_true, decide_eq_true h3, decide_eq_true h3k, Bool.true_or]
      ·have h3 : ¬ (j : Int) = 3 - (k : Int) := by omega
       simp only [h3k, h3, GMb, GMc, Ah, Aj, As, Nat.zero_add, Nat.add_zero, Nat.mul_one, Bc, Bool.false_or]
       by_cases hx2 : x.lv = 2
       ·have hx3 : ¬ (2 : Int) > 2 := by decide
        by_cases hg0 : (g : Int) = 0
        ·simp only [Bk, A9, CG, Da, FC, Gk, KO, AM, CJ, K8, K9, Dj, HS, Ej, HQ, B4, Ei, Ga, AL, AH, BF, BP, Ic, N5, P1, N4, gk_s, MF, MI, MG, MH, QI, Nl, G9, MR, MU, MS, MT, QL, MJ, MM, MK, ML, QJ, MN, MQ, MO, MP, QK, Fp, AN, decide_true, decide_false, Bool.not_true, Bool.not_false, ET, Dn, Nu, J0, IT, if_true, Bool.false_eq_true, if_false, Fk, DE, Cx, BD, Bool.false_or, Bool.true_or, Bool.or_false, Bool.or_true, Ah, Aj, As, Nat.zero_add, Nat.add_zero, Nat.mul_one, Bc, hw, Av hi, hx, hx2, hg0, hx3]
        ·simp only [Bk, A9, CG, Da, FC, Gk, KO, AM, CJ, K8, K9, Dj, HS, Ej, HQ, B4, Ei, Ga, AL, AH, BF, BP, Ic, N5, P1, N4, gk_s, MF, MI, MG, MH, QI, Nl, G9, MR, MU, MS, MT, QL, MJ, MM, MK, ML, QJ, MN, MQ, MO, MP, QK, Fp, AN, decide_true, decide_false, Bool.not_true, Bool.not_false, ET, Dn, Nu, J0, IT, if_true, Bool.false_eq_true, if_false, Fk, DE, Cx, BD, Bool.false_or, Bool.true_or, Bool.or_false, Bool.or_true, Ah, Aj, As, Nat.zero_add, Nat.add_zero, Nat.mul_one, Bc, hw, Av hi, hx, hx2, hg0, hx3]
       ·have hx3 : x.lv > 2 := by omega
        have hlt := hE' hx3
        have hgd : (Ap L).getD g true = (Ap L)[g] := by rw [List.getD_eq_getElem?_getD, List.getElem?_eq_getElem hlt]; rfl
        simp only [Bk, A9, CG, Da, FC, Gk, KO, AM, CJ, K8, K9, Dj, HS, Ej, HQ, B4, Ei, Ga, AL, AH, BF, BP, Ic, N5, P1, N4, gk_s, MF, MI, MG, MH, QI, Nl, G9, MR, MU, MS, MT, QL, MJ, MM, MK, ML, QJ, MN, MQ, MO, MP, QK, Fp, AN, decide_true, decide_false, Bool.not_true, Bool.not_false, ET, Dn, Nu, J0, IT, if_true, Bool.false_eq_true, if_false, Fk, DE, Cx, BD, Bool.false_or, Bool.true_or, Bool.or_false, Bool.or_true, Ah, Aj, As, Nat.zero_add, Nat.add_zero, Nat.mul_one, Bc, hw, Av hi, hx, hx2, hx3, Av hlt, hgd, List.getElem?_cons_zero]
        cases (Ap L)[g] <;> simp only [Bk, A9, CG, Da, FC, Gk, KO, AM, CJ, K8, K9, Dj, HS, Ej, HQ, B4, Ei, Ga, AL, AH, BF, BP, Ic, N5, P1, N4, gk_s, MF, MI, MG, MH, QI, Nl, G9, MR, MU, MS, MT, QL, MJ, MM, MK, ML, QJ, MN, MQ, MO, MP, QK, Fp, AN, decide_true, decide_false, Bool.not_true, Bool.not_false, ET, Dn, Nu, J0, IT, if_true, Bool.false_eq_true, if_false, Fk, DE, Cx, BD, Bool.false_or, Bool.true_or, Bool.or_false, Bool.or_true]
     ·have hf : ¬ (((4 : Nat) : Int) < 4) := by decide
      unfold Sh.f2m
      simp only [A9, CG, Da, FC, Gk, KO, AM, Bk, hf, decide_false, N4, P1, BP, AH, B4, hws]
   ·have hf : ¬ (((4 : Nat) : Int) < 4) := by decide
    unfold Sh.f3h
    simp only [A9, CG, Da, FC, AM, Bk, hf, decide_false, AH, Nu]
theorem q05_inner (L : List Nd) (tk : Tok) (n k : Nat) (H : Ab) (hL : L.length < 140737488355327) (hl : Az L = true) (hn : n < L.length) (h2 : 2 ≤ L[n].lv) (hk : k < 4) :
  Sh.f2d (.sl (enL cNd L) tk) (.int .i64 ((n + 1 : Nat) : Int)) (.int .i64 (k : Int)) H = some (.ret (.int .i64 (if L[n].kid k = 0 then 0 else (At L (L[n].kid k)).kid (3 - k))), H) := by
 obtain ⟨l1, l2, l3⟩ := A0 hl hn
 obtain ⟨q1, q2, q3⟩ := l3 k hk
 have hw : IntKind.i64.wrap (((n + 1 : Nat) : Int) - 1) = (n : Int) := by rw [Ay] <;> omega
 unfold Sh.f2d
 simp only [Ei, Bk, hw, Av hn, Ah, C0 hk, As, Nat.zero_add, Nat.mul_one, Cm hk, Dj, Ej]
 by_cases hc : L[n].kid k = 0
 ·simp [hc]
 ·obtain ⟨m, hm⟩ : ∃ m : Nat, L[n].kid k = ((m + 1 : Nat) : Int) := ⟨(L[n].kid k - 1).toNat, by omega⟩
  obtain ⟨r1, r2⟩ := q3 (by omega) (by omega)
  have hml : m < L.length := by omega
  have hwm : IntKind.i64.wrap (((m + 1 : Nat) : Int) - 1) = (m : Int) := by rw [Ay] <;> omega
  have hw3 : IntKind.i64.wrap (3 - (k : Int)) = ((3 - k : Nat) : Int) := by rw [Ay] <;> omega
  simp only [hc, decide_false, AH, if_false, BE hm hml]
  rw [hm]
  simp only [hwm, hw3, Bk, Av hml, Ah, Nat.zero_add, C0 (show 3 - k < 4 by omega), As, Nat.mul_one, Cm (show 3 - k < 4 by omega), Nu]
end Go.Gm
namespace Go.Gm
def Ly (rec : Nat → List Nat → List Nat) (x : Nd) (k : Nat) (out : List Nat) : List Nat :=
 (List.range k).foldl (fun o k => if 1 < x.lv ∧ 0 < x.kid k then rec (x.kid k).toNat o else o) out
def Fe (L : List Nd) : Nat → Nat → List Nat → List Nat
 | 0, _, out => out
 | v + 1, n, out => if n ∈ out then out else Ly (Fe L v) (At L n) 4 out ++ [n]
def KY (N : Nat) (out : List Nat) : Prop := out.Nodup ∧ ∀ x ∈ out, 1 ≤ x ∧ x ≤ N
theorem Ks : ∀ (N : Nat) (out : List Nat), KY N out → out.length ≤ N
 | 0, out, h => by
  cases out with
  | nil => simp
  | cons a l => have := h.2 a (by simp); omega
 | N + 1, out, h => by
  have h1 : KY N (out.erase (N + 1)) := ⟨h.1.erase _, fun x hx => by
   have := (h.1.mem_erase_iff).1 hx
   have := h.2 x this.2
   omega⟩
  have := Ks N _ h1
  rw [List.length_erase] at this
  split at this <;> omega
theorem QS (rec : Nat → List Nat → List Nat) (x : Nd) (k : Nat) (out : List Nat) : Ly rec x (k + 1) out = if 1 < x.lv ∧ 0 < x.kid k then rec (x.kid k).toNat (Ly rec x k out) else Ly rec x k out := by
 simp [Ly, List.range_succ]
theorem Kb {rec : Nat → List Nat → List Nat} {x : Nd} {out : List Nat} (P : List Nat → Prop) (h0 : P out) (hs : ∀ k o, k < 4 → 1 < x.lv → 0 < x.kid k → P o → P (rec (x.kid k).toNat o)) : ∀ k, k ≤ 4 → P (Ly rec x k out)
 | 0, _ => h0
 | k + 1, h => by
  rw [QS]
  split
  ·rename_i hc; exact hs k _ (by omega) hc.1 hc.2 (Kb P h0 hs k (by omega))
  ·exact Kb P h0 hs k (by omega)
theorem AK {L : List Nd} {n : Nat} (h : n < L.length) : At L ((n + 1 : Nat) : Int) = L[n] := BE rfl h
theorem Ol {L : List Nd} (hl : Az L = true) : ∀ (v n : Nat) (out : List Nat), 1 ≤ n → n ≤ L.length → KY L.length out → KY L.length (Fe L v n out) ∧ (∀ x ∈ out, x ∈ Fe L v n out) ∧ ∀ x ∈ Fe L v n out, x ∈ out ∨ x ≤ n
 | 0, n, out, h1, h2, ho => ⟨ho, fun x hx => hx, fun x hx => .inl hx⟩
 | v + 1, n, out, h1, h2, ho => by
  obtain ⟨m, rfl⟩ : ∃ m, n = m + 1 := ⟨n - 1, by omega⟩
  have hm : m < L.length := by omega
  obtain ⟨l1, l2, l3⟩ := A0 hl hm
  simp only [Fe]
  split
  ·exact ⟨ho, fun x hx => hx, fun x hx => .inl hx⟩
  ·rename_i hn
   rw [AK hm]
   have key := Kb (rec := Fe L v) (x := L[m]) (out := out) (fun o => KY L.length o ∧ (∀ x ∈ out, x ∈ o) ∧ ∀ x ∈ o, x ∈ out ∨ x ≤ m) ⟨ho, fun x hx => hx, fun x hx => .inl hx⟩ (fun k o hk hlv hkid hP => by
    obtain ⟨q1, q2, q3⟩ := l3 k hk
    have := (q3 hlv hkid).1
    obtain ⟨r1, r2, r3⟩ := Ol hl v (L[m].kid k).toNat o (by omega) (by omega) hP.1
    exact ⟨r1, fun x hx => r2 x (hP.2.1 x hx), fun x hx => by
     rcases r3 x hx with h | h
     ·exact hP.2.2 x h
     ·right; omega⟩) 4 (by omega)
   obtain ⟨⟨k1, k2⟩, k3, k4⟩ := key
   generalize Ly (Fe L v) L[m] 4 out = o at k1 k2 k3 k4
   have hno : m + 1 ∉ o := fun h => by
    rcases k4 _ h with h | h
    ·exact hn h
    ·omega
   refine ⟨⟨?_, ?_⟩, ?_, ?_⟩
   ·rw [List.nodup_append]
    exact ⟨k1, by simp, fun a ha b hb e => by simp at hb; subst hb; subst e; exact hno ha⟩
   ·intro x hx
    simp only [List.mem_append, List.mem_singleton] at hx
    rcases hx with hx | rfl
    ·exact k2 x hx
    ·omega
   ·intro x hx; simp [k3 x hx]
   ·intro x hx
    simp only [List.mem_append, List.mem_singleton] at hx
    rcases hx with hx | rfl
    ·rcases k4 x hx with h | h
     ·exact .inl h
     ·exact .inr (by omega)
    ·exact .inr (Nat.le_refl _)
theorem append_outN {B : Ab} {l : List Nat} {n : Nat} (h : l.length < 17592186044415) : AE Dk 1 8 (EP cN B l) (.sl (enL cN [n]) .tight) (DU cN Dk 1 B l) = some (EP cN B (l ++ [n]), DU cN Dk 1 B (l ++ [n])) :=
 HT (by simp) (by simp; omega) (by simp; omega)
theorem q05_end {L : List Nd} (tk : Tok) (B : Ab) (hL : L.length < 17592186044415) (hl : Az L = true) : ∀ (v n d : Nat) (out : List Nat), 1 ≤ n → n ≤ L.length → (At L n).lv = v → v ≤ d → KY L.length out →
  Sh.f8 d (.sl (enL cNd L) tk) (.int .i64 (n : Int)) (EP cN B out) (DU cN Dk 1 B out) = some (.ret (EP cN B (Fe L v n out)), DU cN Dk 1 B (Fe L v n out)) := by
 intro v
 induction v with
 | zero =>
  intro n d out h1 h2 hv hd ho
  exfalso
  obtain ⟨m, rfl⟩ : ∃ m, n = m + 1 := ⟨n - 1, by omega⟩
  rw [AK (by omega)] at hv
  have := (A0 hl (show m < L.length by omega)).1
  omega
 | succ v ih =>
  intro n d out h1 h2 hv hd ho
  obtain ⟨d, rfl⟩ : ∃ e, d = e + 1 := ⟨d - 1, by omega⟩
  obtain ⟨m, rfl⟩ : ∃ m, n = m + 1 := ⟨n - 1, by omega⟩
  have hm : m < L.length := by omega
  obtain ⟨l1, l2, l3⟩ := A0 hl hm
  have hln := Ks _ _ ho
  rw [AK hm] at hv
  show Sh.f4h (Sh.f8 d) _ _ _ _ = _
  unfold Sh.f4h
  have key := Hk (G := fun rec1 vs H1 => Sh.f3j (DU cN Dk 1 B out) (Sh.f8 d) rec1 (ag vs 0) (ag vs 1) (ag vs 2) (ag vs 3) H1) out.length (fun i => decide (out.getD i 0 = m + 1))
   (fun i => [.sl (enL cNd L) tk, .int .i64 ((m + 1 : Nat) : Int), EP cN B out, .int .i64 (i : Int)]) (DU cN Dk 1 B out) (some (.ret (EP cN B (Ly (Fe L v) L[m] 4 out ++ [m + 1])), DU cN Dk 1 B (Ly (Fe L v) L[m] 4 out ++ [m + 1]))) (fun _ => some (.ret (EP cN B out), DU cN Dk 1 B out)) (by omega) (fun rec i hi => ?_) (fun rec => ?_)
  ·refine key.trans ?_
   by_cases hmem : m + 1 ∈ out
   ·obtain ⟨i, hi, hx⟩ := List.getElem_of_mem hmem
    have hf : ∃ j, (List.range out.length).find? (fun i => decide (out.getD i 0 = m + 1)) = some j := by
     cases hq : (List.range out.length).find? (fun i => decide (out.getD i 0 = m + 1)) with
     | some j => exact ⟨j, rfl⟩
     | none =>
      have := List.find?_eq_none.1 hq i (by simpa using hi)
      simp [List.getD_eq_getElem?_getD, List.getElem?_eq_getElem hi, hx] at this
    obtain ⟨j, hj⟩ := hf
    rw [hj]; simp only [Fe, if_pos hmem]
   ·have hf : (List.range out.length).find? (fun i => decide (out.getD i 0 = m + 1)) = none := by
     rw [List.find?_eq_none]
     intro i hi
     have hi' : i < out.length := by simpa using hi
     rw [List.getD_eq_getElem?_getD, List.getElem?_eq_getElem hi']
     simp only [Option.getD_some, decide_eq_true_eq]
     intro e; exact hmem (e ▸ List.getElem_mem hi')
    rw [hf]; simp only [Fe, if_neg hmem, AK hm]
  ·have hi' : (i : Int) < (out.length : Int) := by omega
   have hd2 : decide ((out[i] : Int) = ((m + 1 : Nat) : Int)) = decide (out.getD i 0 = m + 1) := by
    rw [List.getD_eq_getElem?_getD, List.getElem?_eq_getElem hi, Bool.eq_iff_iff]; simp; omega
   unfold Sh.f3j
   simp only [GMb, GMc, Ah, Aj, As, Nat.zero_add, Nat.add_zero, Nat.mul_one, Bc, Ha, A2, hi', Av hi, List.getElem?_cons_zero, Au (show i < 9223372036854775807 by omega), hd2]
   cases decide (out.getD i 0 = m + 1) <;> simp only [GMb, GMc]
  ·unfold Sh.f3j
   rw [Ha]
   simp only [GMb, GMc, A2, Int.lt_irrefl]
   rw [← Ha]
   refine BM (G := fun rec2 vs H1 => Sh.f3i (DU cN Dk 1 B out) (Sh.f8 d) rec2 (ag vs 0) (ag vs 1) (ag vs 2) (ag vs 3) H1) 4 (fun k => [.sl (enL cNd L) tk, .int .i64 ((m + 1 : Nat) : Int), EP cN B (Ly (Fe L v) L[m] k out), .int .i64 (k : Int)]) (fun k => DU cN Dk 1 B (Ly (Fe L v) L[m] k out)) _ (by decide) (fun rec2 k hk => ?_) (fun rec2 => ?_)
   ·have hk' : (k : Int) < 4 := by omega
    have hws : IntKind.i64.wrap ((k : Int) + 1) = ((k + 1 : Nat) : Int) := Au (by omega)
    have hwm : IntKind.i64.wrap (((m + 1 : Nat) : Int) - 1) = (m : Int) := by rw [Ay] <;> omega
    obtain ⟨q1, q2, q3⟩ := l3 k hk
    have ho' : KY L.length (Ly (Fe L v) L[m] k out) := Kb (fun o => KY L.length o) ho (fun k o hk hlv hkid hP => by
     obtain ⟨q1, q2, q3⟩ := l3 k hk
     have := (q3 hlv hkid).1
     exact (Ol hl v (L[m].kid k).toNat o (by omega) (by omega) hP).1) k (by omega)
    unfold Sh.f3i
    rw [QS]
    generalize Ly (Fe L v) L[m] k out = o at ho'
    simp only [GMb, GMc, Ah, Aj, As, Nat.zero_add, Nat.add_zero, Nat.mul_one, Bc, hk', hwm, Av hm, Sh.f2n, hws]
    by_cases hlv : 1 < L[m].lv
    ·by_cases hkid : 0 < L[m].kid k
     ·obtain ⟨r1, r2⟩ := q3 hlv hkid
      obtain ⟨c, hc⟩ : ∃ c : Nat, L[m].kid k = ((c + 1 : Nat) : Int) := ⟨(L[m].kid k - 1).toNat, by omega⟩
      have hcl : c < L.length := by omega
      have hy := r2 L[c] (by rw [show (L[m].kid k - 1).toNat = c from by omega]; exact List.getElem?_eq_getElem hcl)
      have hi2 := ih (c + 1) d o (by omega) (by omega) (by rw [AK hcl]; omega) (by omega) ho'
      have hc0 : ((c + 1 : Nat) : Int) > 0 := by omega
      rw [if_pos ⟨hlv, hkid⟩]
      simp only [GMb, GMc, Ah, Aj, As, Nat.zero_add, Nat.add_zero, Nat.mul_one, Bc, hlv, hwm, Av hm, Ah, C0 hk, Cm hk, hc, hc0, hi2, gt_iff_lt, Int.toNat_natCast, Sh.f2n, hws]
     ·rw [if_neg (fun h => hkid h.2)]
      simp only [GMb, GMc, Ah, Aj, As, Nat.zero_add, Nat.add_zero, Nat.mul_one, Bc, hlv, hwm, Av hm, Ah, C0 hk, Cm hk, hkid, gt_iff_lt, Sh.f2n, hws]
    ·rw [if_neg (fun h => hlv h.1)]
     simp only [GMb, GMc, Ah, Aj, As, Nat.zero_add, Nat.add_zero, Nat.mul_one, Bc, hlv, gt_iff_lt, Sh.f2n, hws]
   ·have hf : ¬ (((4 : Nat) : Int) < 4) := by decide
    have ho' : KY L.length (Ly (Fe L v) L[m] 4 out) := Kb (fun o => KY L.length o) ho (fun k o hk hlv hkid hP => by
     obtain ⟨q1, q2, q3⟩ := l3 k hk
     have := (q3 hlv hkid).1
     exact (Ol hl v (L[m].kid k).toNat o (by omega) (by omega) hP).1) 4 (by omega)
    have hle := Ks _ _ ho'
    unfold Sh.f3i
    simp only [GMb, GMc, hf, build_N, append_outN (show (Ly (Fe L v) L[m] 4 out).length < 17592186044415 by omega)]
end Go.Gm
namespace Go.Gm
def CP (L : List Nd) : List Aa := [.sl (enL cNd L) .no]
def J1 (L : List Nd) : Aa := .agg (CP L)
def DO (L : List Nd) : Int := (At L (L.length : Int)).lv
def OM (L : List Nd) : List Nat := Fe L (DO L).toNat L.length []
def dupB (L : List Nd) : Bool := (List.range L.length).all fun i => !((Ap L).getD (i + 1) true) && (List.range i).all fun k => decide (L.getD i ⟨0, 0, 0, 0, 0⟩ ≠ L.getD k ⟨0, 0, 0, 0, 0⟩)
def orderB (L : List Nd) : Bool := (List.range (OM L).length).all (fun i => decide ((OM L).getD i 0 = i + 1)) && decide ((OM L).length = L.length)
def DT (L : List Nd) : Bool :=
 decide (L = []) || (Az L && !(CI L L.length) && dupB L && orderB L)
theorem boxQuad (L : List Nd) (tk : Tok) (H : Ab) : Eh true 1 (.agg [.sl (enL cNd L) tk]) H = some (.ptr H.length 0 0, H ++ [.cel 0 [.sl (enL cNd L) tk]]) := FZ rfl rfl
theorem q05_right (L : List Nd) (tk : Tok) (H : Ab) (hL : L.length < 17592186044415) : Sh.f24 (.agg [.sl (enL cNd L) tk]) H = some (.ret (.bool (DT L)), H) := by
 unfold Sh.f24
 simp only [GMb, GMc, Ah, Aj, As, Nat.zero_add, Nat.add_zero, Nat.mul_one, Bc, boxQuad, G2, M7, List.getElem?_cons_zero, A2]
 by_cases h0 : L = []
 ·subst h0; simp [DT]
 ·have hlen : L.length ≠ 0 := fun h => h0 (List.eq_nil_of_length_eq_zero h)
  have h0' : ¬ ((L.length : Int) = 0) := by omega
  have hq : DT L = (Az L && !(CI L L.length) && dupB L && orderB L) := by simp [DT, h0]
  simp only [GMb, GMc, h0', M0 L tk _ (show L.length < 1152921504606846976 by omega)]
  cases hl : Az L with
  | false => simp [hq, hl]
  | true =>
   simp only [GMb, GMc, A2, OG L tk L.length _ (show L.length < 140737488355327 by omega) hl (Nat.le_refl _)]
   cases hh : CI L L.length with
   | true => simp [hq, hh]
   | false =>
    simp only [GMb, GMc, FO L tk _ (show L.length < 140737488355327 by omega) hl]
    rw [hq, hl, hh]
    simp only [GMb, GMc]
    generalize hB : H ++ [.cel 0 [.sl (enL cNd L) tk]] = B
    have hfin : ∀ (v : Bool) (G : Ab), rP H (.bool v) (B ++ G) = some (.ret (.bool v), H) := fun v G => by rw [← hB, List.append_assoc]; exact LF
    have hfin0 : ∀ (v : Bool), rP H (.bool v) B = some (.ret (.bool v), H) := fun v => by rw [← hB]; exact LF
    have key := Dr (G := fun rec1 vs H1 => Sh.f3m H rec1 (ag vs 0) (ag vs 1) (ag vs 2) H1) L.length (fun i => !((Ap L).getD (i + 1) true) && (List.range i).all fun k => decide (L.getD i ⟨0, 0, 0, 0, 0⟩ ≠ L.getD k ⟨0, 0, 0, 0, 0⟩))
     (fun i => [.sl (enL cNd L) tk, .sl (enL cB (Ap L)) .no, .int .i64 (i : Int)]) B (some (.ret (.bool (orderB L)), H)) (some (.ret (.bool false), H)) (by omega) (fun rec i hi => ?_) (fun rec => ?_)
    ·refine key.trans ?_
     rw [show dupB L = (List.range L.length).all fun i => !((Ap L).getD (i + 1) true) && (List.range i).all fun k => decide (L.getD i ⟨0, 0, 0, 0, 0⟩ ≠ L.getD k ⟨0, 0, 0, 0, 0⟩) from rfl]
     cases (List.range L.length).all fun i => !((Ap L).getD (i + 1) true) && (List.range i).all fun k => decide (L.getD i ⟨0, 0, 0, 0, 0⟩ ≠ L.getD k ⟨0, 0, 0, 0, 0⟩) <;> simp only [GMb, GMc]
    ·have hi' : (i : Int) < (L.length : Int) := by omega
     have hlt : i + 1 < (Ap L).length := by rw [BY]; omega
     have hws : IntKind.i64.wrap ((i : Int) + 1) = ((i + 1 : Nat) : Int) := Au (by omega)
     have hgd : (Ap L).getD (i + 1) true = (Ap L)[i + 1] := by rw [List.getD_eq_getElem?_getD, List.getElem?_eq_getElem hlt]; rfl
     unfold Sh.f3m
     simp only [GMb, GMc, Ah, Aj, As, Nat.zero_add, Nat.add_zero, Nat.mul_one, Bc, A2, hi', hws, Av hlt, List.getElem?_cons_zero, hgd]
     cases (Ap L)[i + 1] with
     | true => simp only [GMb, GMc, hfin0]
     | false =>
      simp only [GMb, GMc]
      refine Dr (G := fun rec2 vs H1 => Sh.f3k H rec rec2 (ag vs 0) (ag vs 1) (ag vs 2) (ag vs 3) H1) i (fun k => decide (L.getD i ⟨0, 0, 0, 0, 0⟩ ≠ L.getD k ⟨0, 0, 0, 0, 0⟩))
       (fun k => [.sl (enL cNd L) tk, .sl (enL cB (Ap L)) .no, .int .i64 (i : Int), .int .i64 (k : Int)]) B _ _ (by omega) (fun rec2 k hk => ?_) (fun rec2 => ?_)
      ·have hk' : (k : Int) < (i : Int) := by omega
       have hkl : k < L.length := by omega
       unfold Sh.f3k
       simp only [GMb, GMc, hk', Av hi, Av hkl, Fa, eq_nd, hfin0, Au (show k < 9223372036854775807 by omega)]
       simp only [List.getD_eq_getElem?_getD, List.getElem?_eq_getElem hi, List.getElem?_eq_getElem hkl, Option.getD_some]
       by_cases he : L[i] = L[k]
       ·simp only [he, ne_eq, not_true_eq_false, GMb, GMc]
       ·simp only [he, ne_eq, not_false_eq_true, GMb, GMc]
      ·unfold Sh.f3k
       simp only [GMb, GMc, Int.lt_irrefl, hws]
    ·unfold Sh.f3m
     have hm : L.length - 1 < L.length := by omega
     have hlm : L.length = L.length - 1 + 1 := by omega
     have hlv : (At L (L.length : Int)).lv = ((DO L).toNat : Int) := by
      have := (A0 hl hm).1
      unfold DO
      rw [hlm, AK hm]; omega
     have hend : Sh.f8 AI (.sl (enL cNd L) tk) (.int .i64 (L.length : Int)) (.sl [] .tight) B = some (.ret (EP cN B (Fe L (DO L).toNat L.length [])), DU cN Dk 1 B (Fe L (DO L).toNat L.length [])) := q05_end tk B hL hl (DO L).toNat L.length AI [] (by omega) (Nat.le_refl _) hlv (by
      have := (A0 hl hm).2.1
      rw [CT]
      unfold DO
      rw [hlm, AK hm]; omega) ⟨by simp, by simp⟩
     have hok := (Ol hl (DO L).toNat L.length [] (by omega) (Nat.le_refl _) ⟨by simp, by simp⟩).1
     have hol := Ks _ _ hok
     obtain ⟨G, hG⟩ := LI (f := cN) (ty := Dk) (sz := 1) B (Fe L (DO L).toNat L.length [])
     simp only [GMb, GMc, A2, Int.lt_irrefl, hend, hG, Ha]
     have hsame : OM L = Fe L (DO L).toNat L.length [] := rfl
     rw [← hsame] at hol ⊢
     unfold orderB
     generalize OM L = o at hol ⊢
     have key := Dr (G := fun rec3 vs H1 => Sh.f3l H rec3 (ag vs 0) (ag vs 1) (ag vs 2) H1) o.length (fun i => decide (o.getD i 0 = i + 1)) (fun i => [.sl (enL cNd L) tk, .sl (enL cN o) (outK B o), .int .i64 (i : Int)]) (B ++ G) (some (.ret (.bool (decide (o.length = L.length))), H)) (some (.ret (.bool false), H)) (by omega) (fun rec i hi => ?_) (fun rec => ?_)
     ·refine key.trans ?_
      cases (List.range o.length).all (fun i => decide (o.getD i 0 = i + 1)) <;> simp only [GMb, GMc]
     ·have hi' : (i : Int) < (o.length : Int) := by omega
      unfold Sh.f3l
      simp only [GMb, GMc, Ah, Aj, As, Nat.zero_add, Nat.add_zero, Nat.mul_one, Bc, A2, hi', Av hi, List.getElem?_cons_zero, Au (show i < 9223372036854775807 by omega), hfin]
      simp only [List.getD_eq_getElem?_getD, List.getElem?_eq_getElem hi, Option.getD_some]
      by_cases he : o[i] = i + 1
      ·have : (o[i] : Int) = ((i + 1 : Nat) : Int) := by omega
       simp only [decide_eq_true this, decide_eq_true he, GMb, GMc]
      ·have : ¬ (o[i] : Int) = ((i + 1 : Nat) : Int) := by omega
       simp only [decide_eq_false this, decide_eq_false he, GMb, GMc]
     ·have hd : decide ((o.length : Int) = (L.length : Int)) = decide (o.length = L.length) := by rw [Bool.eq_iff_iff]; simp; omega
      unfold Sh.f3l
      simp only [GMb, GMc, A2, Int.lt_irrefl, hfin, hd]
theorem q05_level (L : List Nd) (tk : Tok) (H : Ab) (hL : L.length < 17592186044415) : Sh.fu (.agg [.sl (enL cNd L) tk]) H = some (.ret (.int .i64 (if L = [] then 0 else DO L)), H) := by
 unfold Sh.fu
 simp only [GMb, GMc, Ah, Aj, As, Nat.zero_add, Nat.add_zero, Nat.mul_one, Bc, boxQuad, G2, M7, List.getElem?_cons_zero, A2]
 by_cases h0 : L = []
 ·subst h0; simp
 ·have hlen : L.length ≠ 0 := fun h => h0 (List.eq_nil_of_length_eq_zero h)
  have h0' : ¬ ((L.length : Int) = 0) := by omega
  have hm : L.length - 1 < L.length := by omega
  have hw : IntKind.i64.wrap ((L.length : Int) - 1) = ((L.length - 1 : Nat) : Int) := Db (by omega) (by omega)
  have ht : DO L = L[L.length - 1].lv := by
   unfold DO
   rw [BE (n := L.length - 1) (by omega) hm]
  simp only [h0, h0', GMb, GMc, Ah, Aj, As, Nat.zero_add, Nat.add_zero, Nat.mul_one, Bc, hw, Av hm, OE, ht]
end Go.Gm
namespace Go.Gm
abbrev nd0 : Nd := ⟨0, 0, 0, 0, 0⟩
def Nd.setKid (x : Nd) (k : Nat) (c : Int) : Nd := match k with | 0 => { x with k0 := c } | 1 => { x with k1 := c } | 2 => { x with k2 := c } | _ => { x with k3 := c }
theorem DD (x : Nd) (k : Nat) (c : Int) : (x.setKid k c).lv = x.lv := by unfold Nd.setKid; split <;> rfl
theorem Jv (x : Nd) {k : Nat} (c : Int) (h : k < 4) : (x.setKid k c).kid k = c := by
 match k, h with
 | 0, _ => rfl
 | 1, _ => rfl
 | 2, _ => rfl
 | 3, _ => rfl
theorem DQ (x : Nd) {k j : Nat} (c : Int) (h : k < 4) (hj : j < 4) (hne : j ≠ k) : (x.setKid k c).kid j = x.kid j := by
 match k, j, h, hj with
 | 0, 1, _, _ => rfl
 | 0, 2, _, _ => rfl
 | 0, 3, _, _ => rfl
 | 1, 0, _, _ => rfl
 | 1, 2, _, _ => rfl
 | 1, 3, _, _ => rfl
 | 2, 0, _, _ => rfl
 | 2, 1, _, _ => rfl
 | 2, 3, _, _ => rfl
 | 3, 0, _, _ => rfl
 | 3, 1, _, _ => rfl
 | 3, 2, _, _ => rfl
 | 0, 0, _, _ => exact absurd rfl hne
 | 1, 1, _, _ => exact absurd rfl hne
 | 2, 2, _, _ => exact absurd rfl hne
 | 3, 3, _, _ => exact absurd rfl hne
section
variable {H : Ab} {p k : Nat} {x : Nd} {cs cs' : List Aa}
theorem Ds (hg : H[p]? = some (.cel 0 (cNd x))) : Ad true 5 (.ptr p 0 0) H = some (.agg (cNd x)) := by
 simp only [Ad, AT hg, Option.bind_some, if_true]; rfl
theorem F0 (hg : H[p]? = some (.cel 0 (cNd x))) : Ad false 1 (.ptr p 0 0) H = some (.int .i64 x.lv) := by
 simp only [Ad, AT hg, Option.bind_some, Bool.false_eq_true, if_false]; rfl
theorem M8 (hg : H[p]? = some (.cel 0 (cNd x))) (h : k < 4) : Ad false 1 (.ptr p 0 (1 + k)) H = some (.int .i64 (x.kid k)) := by
 simp only [Ad, AT hg, Option.bind_some, Bool.false_eq_true, if_false]; exact Cm h
theorem Cv {c : Int} (hg : H[p]? = some (.cel 0 (cNd x))) (h : k < 4) : Ak 1 (.ptr p 0 (1 + k)) (.int .i64 c) H = some (H.set p (.cel 0 (cNd (x.setKid k c)))) := by
 simp only [Ak, AT hg, Option.bind_some, acells_int, C8 hg]
 match k, h with
 | 0, _ => rfl
 | 1, _ => rfl
 | 2, _ => rfl
 | 3, _ => rfl
theorem Ev (hg : H[p]? = some (.cel 0 cs)) (hl : cs.length = 5) : Ak 5 (.ptr p 0 0) (.agg (cNd x)) H = some (H.set p (.cel 0 (cNd x))) := by
 simp only [Ak, AT hg, Option.bind_some, Ri, C8 hg, J2 hl]
 rw [if_pos ⟨rfl, by omega⟩]
theorem Du {K : IntKind} {id g o : Nat} (h : k < 4) : AZ 4 1 (.ptr id g o) (.int K (k : Int)) = some (.ptr id g (o + k)) := by
 unfold AZ
 simp only []
 rw [if_pos ⟨by omega, by omega⟩]; simp

end
theorem FB (H : Ab) : AC (some [.int .i64 0, .int .i64 0, .int .i64 0, .int .i64 0, .int .i64 0]) H = some (.ptr H.length 0 0, H ++ [.cel 0 (cNd nd0)]) := alloc_eq rfl
theorem Dw (L : List Nd) : (Ap L).getD 0 true = true := by
 have key : ∀ (l : List Nd) (E : List Bool), E[0]? = some true → (l.foldl (fun E x => E ++ [Lz E x]) E)[0]? = some true := by
  intro l
  induction l with
  | nil => intro E h; exact h
  | cons a l ih => intro E h; exact ih _ (by rw [List.getElem?_append_left (by cases E with | nil => simp at h | cons e E => simp)]; exact h)
 rw [List.getD_eq_getElem?_getD, show (Ap L)[0]? = some true from key L [true] rfl]; rfl
def Gg (L : List Nd) (x : Nd) (k : Nat) : Int := if x.kid k = 0 then 0 else (At L (x.kid k)).kid (3 - k)
def CB (L : List Nd) (n : Nat) : Nd := ⟨(At L n).lv - 1, Gg L (At L n) 0, Gg L (At L n) 1, Gg L (At L n) 2, Gg L (At L n) 3⟩
def Bs : Nat → List Nd → Nat → List Nd × Nat
 | 0, L, n => (L, n)
 | f + 1, L, n => if CI L n then Bs f (L ++ [CB L n]) (L.length + 1) else (L, n)
def BR (L : List Nd) (n : Nat) : List Nd × Nat :=
 if (Ap L).getD n true then (L, 0) else Bs (At L n).lv.toNat L n
theorem QF (L : List Nd) (n : Nat) {k : Nat} (h : k < 4) : (CB L n).kid k = Gg L (At L n) k := by
 match k, h with
 | 0, _ => rfl
 | 1, _ => rfl
 | 2, _ => rfl
 | 3, _ => rfl
theorem Lr {L : List Nd} {x : Nd} (hl : Az L = true) (hx : Dp (L ++ [x]) L.length = true) : Az (L ++ [x]) = true := by
 unfold Az
 rw [List.all_eq_true]
 intro i hi
 have hi' : i < L.length + 1 := by simpa using hi
 by_cases h : i = L.length
 ·rw [h]; exact hx
 ·have hlt : i < L.length := by omega
  have h1 := List.all_eq_true.1 hl i (by simpa using hlt)
  simp only [Dp, List.getElem?_append_left hlt, List.getElem?_eq_getElem hlt, Bool.and_eq_true, List.all_eq_true] at h1 ⊢
  refine ⟨h1.1, fun k hk => ?_⟩
  have h2 := h1.2 k hk
  simp only [BH, Bool.and_eq_true, decide_eq_true_eq] at h2 ⊢
  refine ⟨h2.1, fun q1 q2 => ?_⟩
  obtain ⟨r1, r2⟩ := h2.2 q1 q2
  refine ⟨r1, fun y hy => ?_⟩
  rw [List.getElem?_append_left (by omega)] at hy
  exact r2 y hy
theorem loose_ndOk {L : List Nd} {x : Nd} (h1 : 1 ≤ x.lv) (h2 : x.lv ≤ 1329) (h3 : ∀ k, k < 4 → 0 ≤ x.kid k ∧ (x.lv = 1 → x.kid k ≤ 255) ∧ (1 < x.lv → 0 < x.kid k → x.kid k ≤ L.length ∧ (At L (x.kid k)).lv = x.lv - 1)) : Dp (L ++ [x]) L.length = true := by
 simp only [Dp, List.getElem?_append_right (Nat.le_refl _), Nat.sub_self, List.getElem?_cons_zero, Bool.and_eq_true, decide_eq_true_eq, List.all_eq_true]
 refine ⟨⟨h1, h2⟩, fun k hk => ?_⟩
 obtain ⟨q1, q2, q3⟩ := h3 k (by simpa using hk)
 simp only [BH, Bool.and_eq_true, decide_eq_true_eq]
 refine ⟨⟨q1, q2⟩, fun r1 r2 => ?_⟩
 obtain ⟨s1, s2⟩ := q3 r1 r2
 refine ⟨s1, fun y hy => ?_⟩
 have hlt : (x.kid k - 1).toNat < L.length := by omega
 rw [List.getElem?_append_left hlt, List.getElem?_eq_getElem hlt] at hy
 injection hy with hy
 rw [← hy, ← s2, BE (n := (x.kid k - 1).toNat) (by omega) hlt]
theorem Ky {L : List Nd} (hl : Az L = true) {n : Nat} (hn : n < L.length) (h2 : 2 ≤ L[n].lv) : Az (L ++ [CB L (n + 1)]) = true := by
 obtain ⟨l1, l2, l3⟩ := A0 hl hn
 have e : At L ((n + 1 : Nat) : Int) = L[n] := AK hn
 have elv : (CB L (n + 1)).lv = L[n].lv - 1 := by show (At L ((n + 1 : Nat) : Int)).lv - 1 = _; rw [e]
 refine Lr hl (loose_ndOk (by omega) (by omega) fun k hk => ?_)
 obtain ⟨q1, q2, q3⟩ := l3 k hk
 rw [QF L (n + 1) hk, elv, e]
 unfold Gg
 by_cases hc : L[n].kid k = 0
 ·rw [if_pos hc]; exact ⟨by omega, fun _ => by omega, fun _ h => by omega⟩
 ·rw [if_neg hc]
  obtain ⟨m, hm⟩ : ∃ m : Nat, L[n].kid k = ((m + 1 : Nat) : Int) := ⟨(L[n].kid k - 1).toNat, by omega⟩
  obtain ⟨r1, r2⟩ := q3 (by omega) (by omega)
  have hml : m < L.length := by omega
  have hy := r2 L[m] (by rw [show (L[n].kid k - 1).toNat = m from by omega]; exact List.getElem?_eq_getElem hml)
  obtain ⟨y1, y2, y3⟩ := A0 hl hml
  rw [BE hm hml]
  obtain ⟨s1, s2, s3⟩ := y3 (3 - k) (by omega)
  refine ⟨s1, fun h => s2 (by omega), fun h h0 => ?_⟩
  obtain ⟨t1, t2⟩ := s3 (by omega) h0
  refine ⟨by omega, ?_⟩
  obtain ⟨c, hc'⟩ : ∃ c : Nat, L[m].kid (3 - k) = ((c + 1 : Nat) : Int) := ⟨(L[m].kid (3 - k) - 1).toNat, by omega⟩
  have hcl : c < L.length := by omega
  rw [BE hc' hcl]
  have := t2 L[c] (by rw [show (L[m].kid (3 - k) - 1).toNat = c from by omega]; exact List.getElem?_eq_getElem hcl)
  omega
theorem Kz {L : List Nd} {n : Nat} (h : CI L n = true) : n ≠ 0 ∧ 2 ≤ (At L n).lv := by
 simp only [CI, Bool.and_eq_true, decide_eq_true_eq] at h
 exact ⟨h.1.1, h.1.2⟩
theorem Rg {H G : Ab} {l : List Nd} {x : Nd} (h : l.length < 3518437208883) : AE Aq 5 40 (.sl (enL cNd l) (.own H.length)) (.sl (enL cNd [x]) .tight) (H ++ .tok l.length Aq 5 :: G) = some (.sl (enL cNd (l ++ [x])) (.own H.length), H ++ .tok (l.length + 1) Aq 5 :: G) := by
 have := DA (f := cNd) (l := l) (m := [x]) (ty := Aq) (bytes := 40) (tk := .tight) (H := H ++ .tok l.length Aq 5 :: G) (t := H.length) (by simp) (by simp) (by simp; omega) (by simp; omega)
 rw [this]; simp
def Qw (f : Nat → Int) (x : Nd) : Nat → Nd
 | 0 => x
 | k + 1 => (Qw f x k).setKid k (f k)
theorem Qv (f : Nat → Int) (x : Nd) : Qw f x 4 = ⟨x.lv, f 0, f 1, f 2, f 3⟩ := rfl
theorem build_lv (z : Int) : A5 (some [.int .i64 0, .int .i64 0, .int .i64 0, .int .i64 0, .int .i64 0]) [(0, 1, .int .i64 z)] = some (.agg (cNd ⟨z, 0, 0, 0, 0⟩)) := by
 simp [A5, G7, D4, cNd]
theorem q06_shrink (L : List Nd) (tk : Tok) (n : Nat) (H : Ab) (hL : L.length < 3518437200000) (hl : Az L = true) (hn : n ≤ L.length) :
  Sh.f2e (.sl (enL cNd L) tk) (.int .i64 (n : Int)) H = some (.ret (.tup [.sl (enL cNd (BR L n).1) .no, .int .i64 ((BR L n).2 : Int)]), H) := by
 unfold Sh.f2e
 have hb : AD 5 [] = some (.sl (enL cNd []) .tight) := rfl
 rw [hb]
 by_cases h0 : L = []
 ·subst h0
  have hn0 : n = 0 := by simpa using hn
  subst hn0
  have ha : AE Aq 5 40 (.sl (enL cNd []) .tight) (.sl (enL cNd []) tk) H = some (.sl (enL cNd []) .tight, H) := FA (by simp [B9, enL])
  have he := Q3 [] .tight 0 H (by simp) hl (Nat.le_refl _)
  simp only [GMb, GMc, ha, he, show (Ap []).getD 0 true = true from rfl, rPN_self, EI, Ct, CU, JZ, DJ, Option.map_some]
  rfl
 ·have ha : AE Aq 5 40 (.sl (enL cNd []) .tight) (.sl (enL cNd L) tk) H = some (.sl (enL cNd L) (.own H.length), H ++ [.tok L.length Aq 5]) := by
   have := Cj (f := cNd) (l := []) (m := L) (ty := Aq) (bytes := 40) (tk := tk) (H := H) h0 (by simp; omega) (by simp; omega)
   simpa using this
  simp only [GMb, GMc, ha, Q3 L _ n _ (show L.length < 140737488355327 by omega) hl hn]
  unfold BR
  cases hem : (Ap L).getD n true with
  | true => simp only [GMb, GMc, D0, EI, Ct, CU, JZ, DJ, Option.map_some]; rfl
  | false =>
   simp only [GMb, GMc]
   have hlv : (At L n).lv ≤ 1329 := by
    cases n with
    | zero => exfalso; rw [Dw] at hem; cases hem
    | succ m => rw [AK hn]; exact (A0 hl hn).2.1
   have key := Bl (G := fun rec1 vs H1 => Sh.f4r H rec1 (ag vs 0) (ag vs 1) H1) (σ := List Nd × Nat × Ab) (fun s => Az s.1 = true ∧ s.2.1 ≤ s.1.length ∧ s.1.length + (At s.1 s.2.1).lv.toNat < 3518437208883 ∧ s.1.length + (At s.1 s.2.1).lv.toNat < 3518437208883)
    (fun s => [.int .i64 (s.2.1 : Int), .sl (enL cNd s.1) (.own H.length)]) (fun s => H ++ .tok s.1.length Aq 5 :: s.2.2) (fun s => (At s.1 s.2.1).lv.toNat)
    (fun s => some (.ret (.tup [.sl (enL cNd (Bs (At s.1 s.2.1).lv.toNat s.1 s.2.1).1) .no, .int .i64 ((Bs (At s.1 s.2.1).lv.toNat s.1 s.2.1).2 : Int)]), H)) (fun s rec hs hrec => ?_) (L, n, []) ⟨hl, hn, by dsimp only; omega, by dsimp only; omega⟩ (by dsimp only; omega)
   ·exact key
   ·obtain ⟨M, i, G⟩ := s
    obtain ⟨hs1, hs2, hs3, hs4⟩ := hs
    simp only at hs1 hs2 hs3 hs4 hrec ⊢
    unfold Sh.f4r
    simp only [GMb, GMc, OG M _ i _ (show M.length < 140737488355327 by omega) hs1 hs2]
    cases hh : CI M i with
    | false =>
     have : Bs (At M i).lv.toNat M i = (M, i) := by
      cases (At M i).lv.toNat with
      | zero => rfl
      | succ f => simp [Bs, hh]
     simp only [GMb, GMc, this, D0, EI, Ct, CU, JZ, DJ, Option.map_some]
    | true =>
     obtain ⟨hi0, hlv2⟩ := Kz hh
     obtain ⟨m, rfl⟩ : ∃ m, i = m + 1 := ⟨i - 1, by omega⟩
     have hm : m < M.length := hs2
     obtain ⟨l1, l2, l3⟩ := A0 hs1 hm
     have hx : At M ((m + 1 : Nat) : Int) = M[m] := AK hm
     rw [hx] at hlv2 hs3 hrec ⊢
     have hwm : IntKind.i64.wrap (((m + 1 : Nat) : Int) - 1) = (m : Int) := by rw [Ay] <;> omega
     have hwl : IntKind.i64.wrap (M[m].lv - 1) = M[m].lv - 1 := Ay (by omega) (by omega)
     have hsf : Bs M[m].lv.toNat M (m + 1) = Bs (M[m].lv - 1).toNat (M ++ [CB M (m + 1)]) (M.length + 1) := by
      rw [show M[m].lv.toNat = (M[m].lv - 1).toNat + 1 from by omega]
      simp only [Bs, hh, if_true]
     generalize hB : H ++ .tok M.length Aq 5 :: G = B
     simp only [GMb, GMc, Ah, Aj, As, Nat.zero_add, Nat.add_zero, Nat.mul_one, Bc, hwm, Av hm, hwl, build_lv, FB, Ev (AA (B := B) (cs := cNd nd0)) rfl, BU]
     refine BM (G := fun rec2 vs H1 => Sh.f3u H rec rec2 (ag vs 0) (ag vs 1) (ag vs 2) (ag vs 3) H1) 4 (fun k => [.int .i64 ((m + 1 : Nat) : Int), .sl (enL cNd M) (.own H.length), .ptr B.length 0 0, .int .i64 (k : Int)]) (fun k => B ++ [.cel 0 (cNd (Qw (Gg M M[m]) ⟨M[m].lv - 1, 0, 0, 0, 0⟩ k))]) _ (by decide) (fun rec2 k hk => ?_) (fun rec2 => ?_)
     ·have hk' : (k : Int) < 4 := by omega
      unfold Sh.f3u
      have hinn := q05_inner M (.own H.length) m k (B ++ [.cel 0 (cNd (Qw (Gg M M[m]) ⟨M[m].lv - 1, 0, 0, 0, 0⟩ k))]) (by omega) hs1 hm hlv2 hk
      simp only [GMb, GMc, hk', hinn, Aj, Nat.zero_add, Du hk, Cv (AA (B := B)) hk, BU, Au (show k < 9223372036854775807 by omega)]
      rfl
     ·have hf : ¬ (((4 : Nat) : Int) < 4) := by decide
      have hel : (⟨M[m].lv - 1, Gg M M[m] 0, Gg M M[m] 1, Gg M M[m] 2, Gg M M[m] 3⟩ : Nd) = CB M (m + 1) := by unfold CB; rw [hx]
      unfold Sh.f3u
      rw [Qv]
      simp only [GMb, GMc, hf, Ds (AA (B := B)), F9]
      rw [← hB, List.append_assoc, List.cons_append, Rg (by omega)]
      simp only [GMb, GMc, A2, List.length_append, List.length_singleton, hel]
      have hlv' : (At (M ++ [CB M (m + 1)]) ((M.length + 1 : Nat) : Int)).lv = M[m].lv - 1 := by
       rw [AK (by simp), show (M ++ [CB M (m + 1)])[M.length]'(by simp) = CB M (m + 1) from by simp]
       show (At M ((m + 1 : Nat) : Int)).lv - 1 = _
       rw [hx]
      have := hrec (M ++ [CB M (m + 1)], M.length + 1, G ++ [.cel 0 (cNd (CB M (m + 1)))]) ⟨Ky hs1 hm hlv2, by simp, by dsimp only; rw [hlv']; simp; omega, by dsimp only; rw [hlv']; simp; omega⟩ (by dsimp only; rw [hlv']; omega)
      simp only [List.length_append, List.length_singleton] at this
      rw [this, hlv', hsf]
end Go.Gm
namespace Go.Gm
def Bz (l : List Nd) (x : Nd) : Nat := match (List.range l.length).find? (fun i => decide (l.getD i nd0 = x)) with | some i => i + 1 | none => 0
theorem Ey {l : List Nd} {x : Nd} {i : Nat} : Bz l x = i + 1 ↔ l[i]? = some x ∧ ∀ j, j < i → l[j]? ≠ some x := by
 unfold Bz
 constructor
 ·intro h
  cases hf : (List.range l.length).find? (fun i => decide (l.getD i nd0 = x)) with
  | none => rw [hf] at h; dsimp only at h; omega
  | some k =>
   rw [hf] at h; dsimp only at h
   have hk : k = i := by omega
   subst hk
   rw [List.find?_range_eq_some] at hf
   obtain ⟨h1, h2, h3⟩ := hf
   have hlt : k < l.length := by simpa using h2
   simp only [decide_eq_true_eq, List.getD_eq_getElem?_getD, List.getElem?_eq_getElem hlt, Option.getD_some] at h1
   refine ⟨by rw [List.getElem?_eq_getElem hlt, h1], fun j hj e => ?_⟩
   have := h3 j hj
   simp only [List.getD_eq_getElem?_getD, e, Option.getD_some, decide_true, Bool.not_true] at this
   cases this
 ·rintro ⟨h1, h2⟩
  have hlt : i < l.length := (List.getElem?_eq_some_iff.1 h1).1
  have hf : (List.range l.length).find? (fun i => decide (l.getD i nd0 = x)) = some i := by
   rw [List.find?_range_eq_some]
   refine ⟨by simp [List.getD_eq_getElem?_getD, h1], by simpa using hlt, fun j hj => ?_⟩
   have hjl : j < l.length := by omega
   have := h2 j hj
   rw [List.getElem?_eq_getElem hjl] at this
   simp only [List.getD_eq_getElem?_getD, List.getElem?_eq_getElem hjl, Option.getD_some, Bool.not_eq_true', decide_eq_false_iff_not]
   exact fun e => this (by rw [e])
  rw [hf]
theorem Hu {l : List Nd} {x : Nd} : Bz l x = 0 ↔ x ∉ l := by
 constructor
 ·intro h hx
  obtain ⟨i, hi, hxi⟩ := List.getElem_of_mem hx
  unfold Bz at h
  cases hf : (List.range l.length).find? (fun i => decide (l.getD i nd0 = x)) with
  | none =>
   have := List.find?_eq_none.1 hf i (by simpa using hi)
   simp [List.getD_eq_getElem?_getD, List.getElem?_eq_getElem hi, hxi] at this
  | some k => rw [hf] at h; dsimp only at h; omega
 ·intro h
  cases hf : Bz l x with
  | zero => rfl
  | succ i =>
   rw [Ey] at hf
   exact absurd (List.mem_of_getElem? hf.1) h
theorem LY {l m : List Nd} {x : Nd} (h : Bz l x ≠ 0) : Bz (l ++ m) x = Bz l x := by
 cases hf : Bz l x with
 | zero => exact absurd hf h
 | succ i =>
  rw [Ey] at hf ⊢
  have hlt : i < l.length := (List.getElem?_eq_some_iff.1 hf.1).1
  refine ⟨by rw [List.getElem?_append_left hlt]; exact hf.1, fun j hj => ?_⟩
  rw [List.getElem?_append_left (by omega)]; exact hf.2 j hj
theorem QP {l : List Nd} {x : Nd} (h : Bz l x = 0) : Bz (l ++ [x]) x = l.length + 1 := by
 rw [Ey]
 refine ⟨by simp, fun j hj e => ?_⟩
 rw [List.getElem?_append_left hj] at e
 exact Hu.1 h (List.mem_of_getElem? e)
def BG (out : List Nd) (x : Nd) : List Nd × Nat := if Bz out x = 0 then (out ++ [x], out.length + 1) else (out, Bz out x)
def Bg (rec : Nat → List Nd → List Nd × Nat) (x : Nd) : Nat → List Nd → List Nd × Nd
 | 0, out => (out, x)
 | k + 1, out => ((rec (x.kid k).toNat (Bg rec x k out).1).1, (Bg rec x k out).2.setKid k ((rec (x.kid k).toNat (Bg rec x k out).1).2 : Int))
def AB (L : List Nd) (E : List Bool) : Nat → Nat → List Nd → List Nd × Nat
 | 0, _, out => (out, 0)
 | v + 1, n, out =>
  if E.getD n true then (out, 0)
  else if 1 < (At L n).lv then BG (Bg (AB L E v) (At L n) 4 out).1 (Bg (AB L E v) (At L n) 4 out).2
  else BG out (At L n)
theorem OJ (out : List Nd) (x : Nd) : 0 < (BG out x).2 := by
 unfold BG
 split
 ·simp
 ·dsimp only; omega
theorem LH (out : List Nd) (x : Nd) : ∃ r, (BG out x).1 = out ++ r := by
 unfold BG
 split
 ·exact ⟨_, rfl⟩
 ·exact ⟨[], by simp⟩
theorem OK (out : List Nd) (x : Nd) (r : List Nd) : BG ((BG out x).1 ++ r) x = ((BG out x).1 ++ r, (BG out x).2) := by
 by_cases h : Bz out x = 0
 ·have h1 : BG out x = (out ++ [x], out.length + 1) := by simp [BG, h]
  rw [h1]
  have h2 : Bz (out ++ [x] ++ r) x = out.length + 1 := by rw [LY (by rw [QP h]; omega), QP h]
  dsimp only
  unfold BG
  rw [h2, if_neg (by omega)]
 ·have h1 : BG out x = (out, Bz out x) := by simp [BG, h]
  rw [h1]
  dsimp only
  unfold BG
  rw [LY h, if_neg h]
section
variable {L : List Nd} {E : List Bool}
theorem Pu {rec : Nat → List Nd → List Nd × Nat} (hr : ∀ n out, ∃ r, (rec n out).1 = out ++ r) (x : Nd) : ∀ k out, ∃ r, (Bg rec x k out).1 = out ++ r
 | 0, out => ⟨[], by simp [Bg]⟩
 | k + 1, out => by
  obtain ⟨r, h⟩ := Pu hr x k out
  obtain ⟨r', h'⟩ := hr (x.kid k).toNat (Bg rec x k out).1
  exact ⟨r ++ r', by simp only [Bg]; rw [h', h]; simp⟩
theorem Pv : ∀ v n out, ∃ r, (AB L E v n out).1 = out ++ r
 | 0, n, out => ⟨[], by simp [AB]⟩
 | v + 1, n, out => by
  simp only [AB]
  split
  ·exact ⟨[], by simp⟩
  ·split
   ·obtain ⟨r, h⟩ := Pu (Pv v) (At L n) 4 out
    obtain ⟨r', h'⟩ := LH (Bg (AB L E v) (At L n) 4 out).1 (Bg (AB L E v) (At L n) 4 out).2
    exact ⟨r ++ r', by rw [h', h]; simp⟩
   ·exact LH _ _
theorem D6 : ∀ v n out r, AB L E v n ((AB L E v n out).1 ++ r) = ((AB L E v n out).1 ++ r, (AB L E v n out).2)
 | 0, n, out, r => by simp [AB]
 | v + 1, n, out, r => by
  by_cases he : E.getD n true = true
  ·simp only [AB, if_pos he]
  ·by_cases hl : 1 < (At L n).lv
   ·have e : ∀ o, AB L E (v + 1) n o = BG (Bg (AB L E v) (At L n) 4 o).1 (Bg (AB L E v) (At L n) 4 o).2 := fun o => by simp only [AB, if_neg he, if_pos hl]
    have key : ∀ k, k ≤ 4 → ∀ s, Bg (AB L E v) (At L n) k ((Bg (AB L E v) (At L n) k out).1 ++ s) = ((Bg (AB L E v) (At L n) k out).1 ++ s, (Bg (AB L E v) (At L n) k out).2) := by
     intro k
     induction k with
     | zero => intro _ s; simp [Bg]
     | succ k ih =>
      intro hk s
      simp only [Bg]
      obtain ⟨r', h'⟩ := Pv (L := L) (E := E) v ((At L n).kid k).toNat (Bg (AB L E v) (At L n) k out).1
      have hi := ih (by omega) (r' ++ s)
      have ha := D6 v ((At L n).kid k).toNat (Bg (AB L E v) (At L n) k out).1 s
      rw [h'] at ha ⊢
      rw [List.append_assoc, hi]
      rw [List.append_assoc] at ha
      dsimp only
      rw [ha]
    obtain ⟨r', h'⟩ := LH (Bg (AB L E v) (At L n) 4 out).1 (Bg (AB L E v) (At L n) 4 out).2
    have ha := OK (Bg (AB L E v) (At L n) 4 out).1 (Bg (AB L E v) (At L n) 4 out).2 r
    rw [e, e]
    rw [h'] at ha ⊢
    rw [List.append_assoc, key 4 (by omega)]
    dsimp only
    rw [List.append_assoc] at ha
    exact ha
   ·have e : ∀ o, AB L E (v + 1) n o = BG o (At L n) := fun o => by simp only [AB, if_neg he, if_neg hl]
    rw [e, e]; exact OK out (At L n) r

end
end Go.Gm
namespace Go.Gm
theorem q06_find (l : List Nd) (tk : Tok) (x : Nd) (H : Ab) (hl : l.length < 1152921504606846975) : Sh.f2f (.sl (enL cNd l) tk) (.agg (cNd x)) H = some (.ret (.int .i64 (Bz l x : Int)), H) := by
 unfold Sh.f2f
 rw [FZ (sz := 5) Cq rfl]
 simp only [GMb, GMc]
 have hp : (H ++ [Blk.cel 0 (cNd x)])[H.length]? = some (.cel 0 (cNd x)) := AA
 have key := Hk (G := fun rec1 vs H1 => Sh.f3v H rec1 (ag vs 0) (ag vs 1) (ag vs 2) H1) l.length (fun i => decide (l.getD i nd0 = x)) (fun i => [.sl (enL cNd l) tk, .ptr H.length 0 0, .int .i64 (i : Int)]) (H ++ [.cel 0 (cNd x)])
  (some (.ret (.int .i64 0), H)) (fun i => some (.ret (.int .i64 ((i + 1 : Nat) : Int)), H)) (by omega) (fun rec i hi => ?_) (fun rec => ?_)
 ·refine key.trans ?_
  unfold Bz
  cases (List.range l.length).find? (fun i => decide (l.getD i nd0 = x)) <;> rfl
 ·have hi' : (i : Int) < (l.length : Int) := by omega
  unfold Sh.f3v
  simp only [GMb, GMc, A2, hi', Av hi, Fa, Ds hp, eq_nd, Au (show i < 9223372036854775807 by omega), OE]
  simp only [List.getD_eq_getElem?_getD, List.getElem?_eq_getElem hi, Option.getD_some]
  by_cases he : l[i] = x
  ·simp only [he, GMb, GMc]
  ·simp only [he, GMb, GMc]
 ·unfold Sh.f3v
  simp only [GMb, GMc, A2, Int.lt_irrefl, OE]
structure VS (b id : Nat) (out : List Nd) (D : List Nat) (v : Aa) (H : Ab) : Prop where
 hv : (out = [] ∧ v = .sl [] .tight) ∨ ∃ t, b ≤ t ∧ v = .sl (enL cNd out) (.own t) ∧ H[t]? = some (.tok out.length Aq 5)
 hd : H[id]? = some (.cel 0 (flat cN D))
structure Ext (b id : Nat) (H H' : Ab) : Prop where
 len : H.length ≤ H'.length
 cel : ∀ (i : Nat) (cs : List Aa), i ≠ id → H[i]? = some (.cel 0 cs) → H'[i]? = some (.cel 0 cs)
 old : ∀ i, i < b → H'[i]? = H[i]?
theorem Ext.refl (b id : Nat) (H : Ab) : Ext b id H H := ⟨Nat.le_refl _, fun _ _ _ h => h, fun _ _ => rfl⟩
theorem Ext.trans {b id : Nat} {H H1 H2 : Ab} (h : Ext b id H H1) (h' : Ext b id H1 H2) : Ext b id H H2 :=
 ⟨Nat.le_trans h.len h'.len, fun i cs hi hc => h'.cel i cs hi (h.cel i cs hi hc), fun i hi => (h'.old i hi).trans (h.old i hi)⟩
theorem VS.sl {b id : Nat} {out : List Nd} {D : List Nat} {v : Aa} {H : Ab} (h : VS b id out D v H) : ∃ tk, v = .sl (enL cNd out) tk := by
 rcases h.hv with ⟨rfl, rfl⟩ | ⟨t, _, rfl, _⟩
 ·exact ⟨_, rfl⟩
 ·exact ⟨_, rfl⟩
theorem LV {H : Ab} {i : Nat} {x : Blk} (B : Blk) (h : H[i]? = some x) : (H ++ [B])[i]? = some x := by
 have := (List.getElem?_eq_some_iff.1 h).1
 rw [List.getElem?_append_left this]; exact h
theorem VS.snoc {b id : Nat} {out : List Nd} {D : List Nat} {v : Aa} {H : Ab} (h : VS b id out D v H) (B : Blk) : VS b id out D v (H ++ [B]) := by
 refine ⟨?_, LV B h.hd⟩
 rcases h.hv with h1 | ⟨t, h1, h2, h3⟩
 ·exact .inl h1
 ·exact .inr ⟨t, h1, h2, LV B h3⟩
theorem Ext.snoc {b id : Nat} {H : Ab} (hb : b ≤ H.length) (B : Blk) : Ext b id H (H ++ [B]) :=
 ⟨by simp, fun i cs _ h => LV B h, fun i hi => by rw [List.getElem?_append_left (by omega)]⟩
theorem VS.put {b id p : Nat} {out : List Nd} {D : List Nat} {v : Aa} {H : Ab} {c c' : List Aa} (h : VS b id out D v H) (hp : H[p]? = some (.cel 0 c)) (hne : p ≠ id) : VS b id out D v (H.set p (.cel 0 c')) := by
 refine ⟨?_, by rw [List.getElem?_set_ne hne]; exact h.hd⟩
 rcases h.hv with h1 | ⟨t, h1, h2, h3⟩
 ·exact .inl h1
 ·refine .inr ⟨t, h1, h2, ?_⟩
  have : p ≠ t := fun e => by rw [← e, hp] at h3; cases h3
  rw [List.getElem?_set_ne this]; exact h3
theorem VS.app {b id : Nat} {out : List Nd} {D : List Nat} {v : Aa} {H : Ab} (h : VS b id out D v H) (hb : b ≤ H.length) (x : Nd) (hl : out.length < 3518437208883) :
  ∃ v' H', AE Aq 5 40 v (.sl (enL cNd [x]) .tight) H = some (v', H') ∧ VS b id (out ++ [x]) D v' H' ∧ Ext b id H H' := by
 rcases h.hv with ⟨rfl, rfl⟩ | ⟨t, h1, rfl, h3⟩
 ·have := Cj (f := cNd) (l := []) (m := [x]) (ty := Aq) (bytes := 40) (tk := .tight) (H := H) (by simp) (by simp) (by simp)
  refine ⟨_, _, this, ⟨.inr ⟨H.length, hb, rfl, by simp⟩, LV _ h.hd⟩, Ext.snoc hb _⟩
 ·have := DA (f := cNd) (l := out) (m := [x]) (ty := Aq) (bytes := 40) (tk := .tight) (H := H) (t := t) (by simp) h3 (by simp; omega) (by simp; omega)
  have htl := (List.getElem?_eq_some_iff.1 h3).1
  refine ⟨_, _, this, ⟨.inr ⟨t, h1, rfl, by simp [htl]⟩, ?_⟩, ⟨by simp, fun i cs hi hc => ?_, fun i hi => ?_⟩⟩
  ·have : t ≠ id := fun e => by have := h.hd; rw [← e, h3] at this; cases this
   rw [List.getElem?_set_ne this]; exact h.hd
  ·have : t ≠ i := fun e => by rw [← e, h3] at hc; cases hc
   rw [List.getElem?_set_ne this]; exact hc
  ·rw [List.getElem?_set_ne (by omega)]
structure VI (L out : List Nd) (D : List Nat) : Prop where
 len : D.length = L.length + 1
 cnt : out.length ≤ D.countP (fun d => decide (0 < d))
 val : ∀ (n d : Nat), D[n]? = some d → 0 < d → AB L (Ap L) (At L n).lv.toNat n out = (out, d)
theorem VI.grow {L out r : List Nd} {D : List Nat} (h : ∀ (n d : Nat), D[n]? = some d → 0 < d → AB L (Ap L) (At L n).lv.toNat n out = (out, d)) : ∀ (n d : Nat), D[n]? = some d → 0 < d → AB L (Ap L) (At L n).lv.toNat n (out ++ r) = (out ++ r, d) := by
 intro n d h1 h2
 have h3 := h n d h1 h2
 have := D6 (L := L) (E := Ap L) (At L n).lv.toNat n out r
 rwa [h3] at this
theorem VI.le {L out : List Nd} {D : List Nat} (h : VI L out D) : out.length ≤ L.length + 1 := by
 have := h.cnt
 have := List.countP_le_length (p := fun d : Nat => decide (0 < d)) (l := D)
 have := h.len
 omega
theorem insF_lv {L : List Nd} {E : List Bool} {v n : Nat} {out : List Nd} (he : E.getD n true = false) (hl : 1 < (At L n).lv) : AB L E (v + 1) n out = BG (Bg (AB L E v) (At L n) 4 out).1 (Bg (AB L E v) (At L n) 4 out).2 := by
 simp only [AB, he, Bool.false_eq_true, if_false, if_pos hl]
theorem insF_one {L : List Nd} {E : List Bool} {v n : Nat} {out : List Nd} (he : E.getD n true = false) (hl : ¬ 1 < (At L n).lv) : AB L E (v + 1) n out = BG out (At L n) := by
 simp only [AB, he, Bool.false_eq_true, if_false, if_neg hl]
theorem insK_lv (rec : Nat → List Nd → List Nd × Nat) (x : Nd) : ∀ k out, (Bg rec x k out).2.lv = x.lv
 | 0, out => rfl
 | k + 1, out => by simp only [Bg, DD]; exact insK_lv rec x k out
theorem insK_kid (rec : Nat → List Nd → List Nd × Nat) (x : Nd) : ∀ k out j, k ≤ j → j < 4 → (Bg rec x k out).2.kid j = x.kid j
 | 0, out, j, _, _ => rfl
 | k + 1, out, j, h1, h2 => by
  simp only [Bg]
  rw [DQ _ _ (by omega) h2 (by omega)]
  exact insK_kid rec x k out j (by omega) h2
theorem q06_visit {L : List Nd} (tk tk2 : Tok) (b id : Nat) (hL : L.length < 3518437208880) (hl : Az L = true) : ∀ (v n d : Nat) (out : List Nd) (D : List Nat) (w : Aa) (H : Ab), n ≤ L.length → (n = 0 ∨ (At L n).lv.toNat = v) → v < d → b ≤ id → id < H.length → VS b id out D w H → VI L out D →
  ∃ H' D' w', Sh.fd d (.sl (enL cNd L) tk) (.sl (enL cB (Ap L)) tk2) (.int .i64 (n : Int)) w (.ms id 0 0 (L.length + 1) (L.length + 1) 1 true) H = some (.ret (.tup [w', .ms id 0 0 (L.length + 1) (L.length + 1) 1 true, .int .i64 ((AB L (Ap L) v n out).2 : Int)]), H') ∧
   VS b id (AB L (Ap L) v n out).1 D' w' H' ∧ Ext b id H H' ∧ VI L (AB L (Ap L) v n out).1 D' ∧ ∀ j, n < j → D'[j]? = D[j]? := by
 intro v
 induction v with
 | zero =>
  intro n d out D w H hn hv hd hbi hid hVS hVI
  have hb : b ≤ H.length := by omega
  obtain ⟨d, rfl⟩ : ∃ e, d = e + 1 := ⟨d - 1, by omega⟩
  have hn0 : n = 0 := by
   rcases hv with h | h
   ·exact h
   ·cases n with
    | zero => rfl
    | succ m =>
     rw [AK (show m < L.length from hn)] at h
     have := (A0 hl (show m < L.length from hn)).1; omega
  subst hn0
  have hlt : 0 < (Ap L).length := by rw [BY]; omega
  have he : (Ap L)[0] = true := by have := Dw L; rw [List.getD_eq_getElem?_getD, List.getElem?_eq_getElem hlt] at this; exact this
  refine ⟨H, D, w, ?_, hVS, Ext.refl _ _ _, hVI, fun _ _ => rfl⟩
  show Sh.f2t (Sh.fd d) _ _ _ _ _ _ = _
  unfold Sh.f2t
  simp only [GMb, GMc, Ah, Aj, As, Nat.zero_add, Nat.add_zero, Nat.mul_one, Bc, Av hlt, List.getElem?_cons_zero, he]
  rfl
 | succ v ih =>
  intro n d out D w H hn hv hd hbi hid hVS hVI
  have hb : b ≤ H.length := by omega
  obtain ⟨d, rfl⟩ : ∃ e, d = e + 1 := ⟨d - 1, by omega⟩
  have hlt : n < (Ap L).length := by rw [BY]; omega
  have hgd : (Ap L).getD n true = (Ap L)[n] := by rw [List.getD_eq_getElem?_getD, List.getElem?_eq_getElem hlt]; rfl
  have hDn : n < D.length := by rw [hVI.len]; omega
  have hidx := DZ (sz := 1) (id := id) (n := L.length + 1) (K := .i64) (g := 0) (off := 0) (cap := L.length + 1) (ex := true) (i := n) (by omega)
  simp only [Nat.zero_add, Nat.mul_one] at hidx
  have hld := Hm (f := cN) (AT hVS.hd) hDn
  show ∃ H' D' w', Sh.f2t (Sh.fd d) _ _ _ _ _ _ = _ ∧ _
  unfold Sh.f2t
  simp only [GMb, GMc, Ah, Aj, As, Nat.zero_add, Nat.add_zero, Nat.mul_one, Bc, Av hlt, List.getElem?_cons_zero]
  cases he : (Ap L)[n] with
  | true =>
   have e : AB L (Ap L) (v + 1) n out = (out, 0) := by simp only [AB, hgd, he, if_true]
   rw [e]
   exact ⟨H, D, w, by simp only [GMb, GMc]; rfl, hVS, Ext.refl _ _ _, hVI, fun _ _ => rfl⟩
  | false =>
   rw [he] at hgd
   simp only [GMb, GMc, hidx, hld, List.getElem?_cons_zero]
   by_cases hpos : 0 < D[n]
   ·have hi : (D[n] : Int) > 0 := by omega
    have hv' : (At L n).lv.toNat = v + 1 := by
     rcases hv with h | h
     ·exfalso; subst h; rw [Dw] at hgd; cases hgd
     ·exact h
    have e := hVI.val n D[n] (List.getElem?_eq_getElem hDn) hpos
    rw [hv'] at e
    rw [e]
    exact ⟨H, D, w, by simp only [GMb, GMc, hi], hVS, Ext.refl _ _ _, hVI, fun _ _ => rfl⟩
   ·have hi : ¬ (D[n] : Int) > 0 := by omega
    have hD0 : D[n] = 0 := by omega
    obtain ⟨m, rfl⟩ : ∃ m, n = m + 1 := ⟨n - 1, by
     cases n with
     | zero => rw [Dw] at hgd; cases hgd
     | succ n => rfl⟩
    have hm : m < L.length := hn
    have hv' : (At L ((m + 1 : Nat) : Int)).lv.toNat = v + 1 := by
     rcases hv with h | h
     ·omega
     ·exact h
    obtain ⟨l1, l2, l3⟩ := A0 hl hm
    have hx : At L ((m + 1 : Nat) : Int) = L[m] := AK hm
    rw [hx] at hv'
    have hwm : IntKind.i64.wrap (((m + 1 : Nat) : Int) - 1) = (m : Int) := by rw [Ay] <;> omega
    simp only [GMb, GMc, hi, hwm, Av hm, Fa, FB, Ev (AA (B := H) (cs := cNd nd0)) rfl, BU]
    generalize hX : L[m] = x at l1 l2 l3 hv' hx
    have hpid : H.length ≠ id := by omega
    have loop := LS (G := fun rec1 vs H1 => Sh.f3w H (Sh.fd d) rec1 (ag vs 0) (ag vs 1) (ag vs 2) (ag vs 3) (ag vs 4) (ag vs 5) (ag vs 6) H1) (if 1 < x.lv then 4 else 0)
     (fun k vs Hc => ∃ w' D', vs = [.sl (enL cNd L) tk, .sl (enL cB (Ap L)) tk2, .int .i64 ((m + 1 : Nat) : Int), w', .ms id 0 0 (L.length + 1) (L.length + 1) 1 true, .ptr H.length 0 0, .int .i64 (k : Int)] ∧ VS b id (Bg (AB L (Ap L) v) x k out).1 D' w' Hc ∧ Hc[H.length]? = some (.cel 0 (cNd (Bg (AB L (Ap L) v) x k out).2)) ∧ Ext b id H Hc ∧ VI L (Bg (AB L (Ap L) v) x k out).1 D' ∧ (∀ j, m < j → D'[j]? = D[j]?))
     (by split <;> decide) (fun k vs Hc hk hI => ?_) (vs := [.sl (enL cNd L) tk, .sl (enL cB (Ap L)) tk2, .int .i64 ((m + 1 : Nat) : Int), w, .ms id 0 0 (L.length + 1) (L.length + 1) 1 true, .ptr H.length 0 0, .int .i64 0]) (H := H ++ [.cel 0 (cNd x)]) ⟨w, D, rfl, hVS.snoc _, by simp [Bg], Ext.snoc hb _, hVI, fun _ _ => rfl⟩
    ·obtain ⟨vs', Hc, ⟨w', D', rfl, hVS', hcell, hExt, hVI', hDD⟩, rec, hloop⟩ := loop
     rw [hloop]
     unfold Sh.f3w
     obtain ⟨tkk, rfl⟩ := hVS'.sl
     have hle := hVI'.le
     have hstop : (A6 (.bool (decide (((if 1 < x.lv then 4 else 0 : Nat) : Int) < 4))) (.bool (decide (x.lv > 1))) (.bool false)) = some (.bool false) := by
      by_cases h : 1 < x.lv <;> simp [h]
     have hlvI : (Bg (AB L (Ap L) v) x (if 1 < x.lv then 4 else 0) out).2.lv = x.lv := insK_lv _ _ _ _
     have hput : AB L (Ap L) (v + 1) (m + 1) out = BG (Bg (AB L (Ap L) v) x (if 1 < x.lv then 4 else 0) out).1 (Bg (AB L (Ap L) v) x (if 1 < x.lv then 4 else 0) out).2 := by
      by_cases h : 1 < x.lv
      ·rw [if_pos h, insF_lv hgd (by rw [hx]; exact h), hx]
      ·rw [if_neg h, insF_one hgd (by rw [hx]; exact h), hx]; rfl
     have hpre := Pu (Pv (L := L) (E := Ap L) v) x (if 1 < x.lv then 4 else 0) out
     rw [hput]
     have hagain := D6 (L := L) (E := Ap L) (v + 1) (m + 1) out []
     rw [List.append_nil, hput] at hagain
     generalize (Bg (AB L (Ap L) v) x (if 1 < x.lv then 4 else 0) out) = io at *
     obtain ⟨o, y⟩ := io
     dsimp only at hVS' hcell hVI' hlvI hpre hagain hle ⊢
     have hcond : ∀ (A B : Out), (gk (.bool (decide (((if 1 < x.lv then 4 else 0 : Nat) : Int) < 4))) true (Ac 0 (.ptr H.length 0 0)) fun x29 => gk (.bool (decide (((if 1 < x.lv then 4 else 0 : Nat) : Int) < 4))) true (Ad false 1 x29 Hc) fun x30 => gk (.bool (decide (((if 1 < x.lv then 4 else 0 : Nat) : Int) < 4))) true (Af .none .gtr x30 (.int .i64 1)) fun x31 => (A6 (.bool (decide (((if 1 < x.lv then 4 else 0 : Nat) : Int) < 4))) x31 (.bool false)).bind fun x32 => Al x32 A B) = B := by
      intro A B
      by_cases h : 1 < x.lv
      ·have hf : ¬ (((4 : Nat) : Int) < 4) := by decide
       simp only [if_pos h, hf, GMb, GMc]
      ·have hf : (((0 : Nat) : Int) < 4) := by decide
       have h' : ¬ x.lv > 1 := h
       simp only [if_neg h, hf, GMb, GMc, Aj, Nat.add_zero, F0 hcell, hlvI, h']
     simp only [A9, Aw, AM, Bk]
     rw [hcond]
     have hidx' : A3 1 (.ms id 0 0 (L.length + 1) (L.length + 1) 1 true) (.int .i64 ((m + 1 : Nat) : Int)) = some (.ptr id 0 (m + 1)) := hidx
     have hD'n : D'[m + 1]? = some 0 := by rw [hDD (m + 1) (by omega), List.getElem?_eq_getElem hDn, hD0]
     have hDl : m + 1 < D'.length := by rw [hVI'.len]; omega
     have hD'e : D'[m + 1] = 0 := by rw [List.getElem?_eq_getElem hDl] at hD'n; injection hD'n
     have fin : ∀ (o' : List Nd) (i : Nat) (w2 : Aa) (H2 : Ab), BG o y = (o', i) → VS b id o' D' w2 H2 → Ext b id H H2 → VI L o D' → o'.length ≤ o.length + 1 → (∃ r, o' = o ++ r) →
       ∃ H' D'' w'', Sh.f4s H (.int .i64 ((m + 1 : Nat) : Int)) w2 (.ms id 0 0 (L.length + 1) (L.length + 1) 1 true) (.int .i64 (i : Int)) H2 = some (.ret (.tup [w'', .ms id 0 0 (L.length + 1) (L.length + 1) 1 true, .int .i64 (i : Int)]), H') ∧ VS b id o' D'' w'' H' ∧ Ext b id H H' ∧ VI L o' D'' ∧ ∀ j, m + 1 < j → D''[j]? = D[j]? := by
      intro o' i w2 H2 hp hV2 hE2 hI2 hlen ⟨r, hr⟩
      have hi0 : 0 < i := by have := OJ o y; rw [hp] at this; exact this
      have hst := Ft (f := cN) (sz := 1) (l := D') (i := m + 1) (a := i) (v := .int .i64 (i : Int)) (AT hV2.hd) hDl rfl
      rw [C8 hV2.hd, Nat.mul_one] at hst
      have hidl := (List.getElem?_eq_some_iff.1 hV2.hd).1
      refine ⟨H2.set id (.cel 0 (flat cN (D'.set (m + 1) i))), D'.set (m + 1) i, w2, by unfold Sh.f4s; simp only [GMb, GMc, hidx', hst], ⟨?_, by simp [hidl]⟩, ⟨by simp; exact hE2.len, fun j cs hj hc => ?_, fun j hj => ?_⟩, ⟨by simp [hI2.len], ?_, ?_⟩, fun j hj => ?_⟩
      ·rcases hV2.hv with h1 | ⟨t, h1, h2, h3⟩
       ·exact .inl h1
       ·refine .inr ⟨t, h1, h2, ?_⟩
        have : id ≠ t := fun e => by have := hV2.hd; rw [e, h3] at this; cases this
        rw [List.getElem?_set_ne this]; exact h3
      ·rw [List.getElem?_set_ne (fun e => hj e.symm)]; exact hE2.cel j cs hj hc
      ·rw [List.getElem?_set_ne (by omega)]; exact hE2.old j hj
      ·rw [List.countP_set hDl]
       have := hI2.cnt
       simp only [hD'e, hi0, decide_true, if_true, Nat.lt_irrefl, decide_false, Bool.false_eq_true, if_false, Nat.sub_zero]
       omega
      ·intro j dd hj hdd
       by_cases hjm : j = m + 1
       ·subst hjm
        rw [List.getElem?_set_self hDl] at hj
        injection hj with hj
        subst hj
        rw [hx, hv']
        rw [hp] at hagain
        exact hagain
       ·rw [List.getElem?_set_ne (fun e => hjm e.symm)] at hj
        rw [hr]
        exact VI.grow hI2.val j dd hj hdd
      ·rw [List.getElem?_set_ne (by omega)]; exact hDD j (by omega)
     have hnd := q06_find o tkk y Hc (by omega)
     simp only [GMb, GMc, Ds hcell, hnd]
     by_cases hf : Bz o y = 0
     ·have hp : BG o y = (o ++ [y], o.length + 1) := by simp [BG, hf]
      obtain ⟨w2, H2, ha, hV2, hE2⟩ := hVS'.app (Nat.le_trans hb hExt.len) y (by omega)
      obtain ⟨tk3, rfl⟩ := hV2.sl
      have h0 : ((Bz o y : Nat) : Int) = 0 := by omega
      obtain ⟨H', D'', w'', q1, q2, q3, q4, q5⟩ := fin (o ++ [y]) (o.length + 1) _ H2 hp hV2 (hExt.trans hE2) hVI' (by simp) ⟨[y], rfl⟩
      refine ⟨H', D'', w'', ?_, by rw [hp]; exact q2, q3, by rw [hp]; exact q4, q5⟩
      rw [hp, ← q1]
      simp only [GMb, GMc, h0, F9, ha, A2, List.length_append, List.length_singleton]
     ·have hp : BG o y = (o, Bz o y) := by simp [BG, hf]
      have h0 : ¬ ((Bz o y : Nat) : Int) = 0 := by omega
      obtain ⟨H', D'', w'', q1, q2, q3, q4, q5⟩ := fin o (Bz o y) _ Hc hp hVS' hExt hVI' (by omega) ⟨[], by simp⟩
      refine ⟨H', D'', w'', ?_, by rw [hp]; exact q2, q3, by rw [hp]; exact q4, q5⟩
      rw [hp, ← q1]
      simp only [GMb, GMc, h0]
    ·obtain ⟨w', D', rfl, hVS', hcell, hExt, hVI', hDD⟩ := hI
     have hlv : 1 < x.lv := by
      by_cases h : 1 < x.lv
      ·exact h
      ·rw [if_neg h] at hk; omega
     rw [if_pos hlv] at hk
     obtain ⟨q1, q2, q3⟩ := l3 k hk
     have hk' : (k : Int) < 4 := by omega
     have hlvI := insK_lv (AB L (Ap L) v) x k out
     have hkid := insK_kid (AB L (Ap L) v) x k out k (Nat.le_refl _) hk
     obtain ⟨c, hc⟩ := Int.eq_ofNat_of_zero_le q1
     have hcle : c ≤ m := by
      by_cases h0 : 0 < x.kid k
      ·have := (q3 hlv h0).1; omega
      ·omega
     have hclv : c = 0 ∨ (At L (c : Int)).lv.toNat = v := by
      by_cases h0 : 0 < x.kid k
      ·right
       obtain ⟨c', rfl⟩ : ∃ c', c = c' + 1 := ⟨c - 1, by omega⟩
       have hcl : c' < L.length := by omega
       have := (q3 hlv h0).2 L[c'] (by rw [show (x.kid k - 1).toNat = c' from by omega]; exact List.getElem?_eq_getElem hcl)
       rw [AK hcl]; omega
      ·left; omega
     obtain ⟨H1, D1, w1, r1, r2, r3, r4, r5⟩ := ih c d (Bg (AB L (Ap L) v) x k out).1 D' w' Hc (by omega) hclv (by omega) hbi (Nat.lt_of_lt_of_le hid hExt.len) hVS' hVI'
     have hcell1 := r3.cel _ _ hpid hcell
     have hto : (x.kid k).toNat = c := by omega
     refine ⟨[.sl (enL cNd L) tk, .sl (enL cB (Ap L)) tk2, .int .i64 ((m + 1 : Nat) : Int), w1, .ms id 0 0 (L.length + 1) (L.length + 1) 1 true, .ptr H.length 0 0, .int .i64 ((k + 1 : Nat) : Int)], H1.set H.length (.cel 0 (cNd ((Bg (AB L (Ap L) v) x k out).2.setKid k ((AB L (Ap L) v c (Bg (AB L (Ap L) v) x k out).1).2 : Int)))), ⟨w1, D1, rfl, ?_, ?_, ?_, ?_, ?_⟩, fun rec => ?_⟩
     rotate_left 5
     ·unfold Sh.f3w
      simp only [A9, Aw, GMb, GMc, hk', Aj, Nat.add_zero, Nat.zero_add, F0 hcell, hlvI, show x.lv > 1 from hlv, Du hk, M8 hcell hk, hkid, hc, r1, Dg, Ez, extract_2, Cv hcell1 hk, Au (show k < 9223372036854775807 by omega)]
     ·simp only [Bg, hto]
      exact r2.put hcell1 hpid
     ·have hl1 := (List.getElem?_eq_some_iff.1 hcell1).1
      simp only [Bg, hto]
      rw [List.getElem?_set_self hl1]
     ·refine ⟨by simp; exact (hExt.trans r3).len, fun i cs hi hcs => ?_, fun i hi => ?_⟩
      ·have := (List.getElem?_eq_some_iff.1 hcs).1
       rw [List.getElem?_set_ne (by omega)]; exact (hExt.trans r3).cel i cs hi hcs
      ·rw [List.getElem?_set_ne (by omega)]; exact (hExt.trans r3).old i hi
     ·simp only [Bg, hto]; exact r4
     ·intro j hj; rw [r5 j (by omega)]; exact hDD j hj
end Go.Gm
namespace Go.Gm
theorem BN {H H0 : Ab} (h : ∀ i, i < H0.length → H[i]? = H0[i]?) : H.take H0.length = H0 := by
 apply List.ext_getElem?
 intro i
 by_cases hi : i < H0.length
 ·rw [List.getElem?_take_of_lt hi, h i hi]
 ·rw [List.getElem?_eq_none (by simp; omega), List.getElem?_eq_none (by omega)]
theorem Lf : ∀ (f : Nat) (L : List Nd) (n : Nat), Az L = true → n ≤ L.length → Az (Bs f L n).1 = true ∧ (Bs f L n).2 ≤ (Bs f L n).1.length ∧ (Bs f L n).1.length ≤ L.length + f
 | 0, L, n, hl, hn => ⟨hl, hn, Nat.le_refl _⟩
 | f + 1, L, n, hl, hn => by
  unfold Bs
  cases hh : CI L n with
  | false => exact ⟨hl, hn, by show L.length ≤ _; omega⟩
  | true =>
   obtain ⟨h0, h2⟩ := Kz hh
   obtain ⟨m, rfl⟩ : ∃ m, n = m + 1 := ⟨n - 1, by omega⟩
   rw [AK hn] at h2
   obtain ⟨r1, r2, r3⟩ := Lf f (L ++ [CB L (m + 1)]) (L.length + 1) (Ky hl hn h2) (by simp)
   simp only [if_true]
   refine ⟨r1, r2, ?_⟩
   simp at r3; omega
theorem emp_pos {L : List Nd} {n : Nat} (h : (Ap L).getD n true = false) : 0 < n := by
 cases n with
 | zero => rw [Dw] at h; cases h
 | succ n => omega
theorem lv_le {L : List Nd} (hl : Az L = true) {n : Nat} (h0 : 0 < n) (hn : n ≤ L.length) : (At L (n : Int)).lv.toNat ≤ 1329 := by
 obtain ⟨m, rfl⟩ : ∃ m, n = m + 1 := ⟨n - 1, by omega⟩
 rw [AK hn]
 have := (A0 hl hn).2.1; omega
theorem Qu {L : List Nd} {n : Nat} (hl : Az L = true) (hn : n ≤ L.length) : Az (BR L n).1 = true ∧ (BR L n).2 ≤ (BR L n).1.length ∧ (BR L n).1.length ≤ L.length + 1329 := by
 unfold BR
 cases he : (Ap L).getD n true with
 | true => exact ⟨hl, Nat.zero_le _, by show L.length ≤ _; omega⟩
 | false =>
  obtain ⟨r1, r2, r3⟩ := Lf (At L n).lv.toNat L n hl hn
  have := lv_le hl (emp_pos he) hn
  simp only [Bool.false_eq_true, if_false]
  exact ⟨r1, r2, by omega⟩
def CE (L : List Nd) (n : Nat) : List Nd := (AB (BR L n).1 (Ap (BR L n).1) (At (BR L n).1 ((BR L n).2 : Int)).lv.toNat (BR L n).2 []).1
def NT (L : List Nd) (n : Int) : Bool := Az L && decide (0 ≤ n) && decide (n ≤ L.length)
theorem q06_of (L : List Nd) (tk : Tok) (n : Int) (H : Ab) (hL : L.length < 3518437200000) : Sh.fn (.sl (enL cNd L) tk) (.int .i64 n) H =
  some (.ret (if NT L n then .tup [J1 (CE L n.toNat), .int .i64 0] else .tup [J1 [], .int .i64 1]), H) := by
 unfold Sh.fn
 rw [alloc_eq (cs := [.sl [] .tight]) rfl]
 have hcell : ∀ G : Ab, (H ++ [Blk.cel 0 [.sl [] .tight]] ++ G)[H.length]? = some (.cel 0 [.sl [] .tight]) := fun G => by simp
 have bad : ∀ (k : Aa → Ab → Out), (∀ v G, k v G = (KG [Ad true 1 (.ptr H.length 0 0) G, some (.int .i64 1)]).bind fun x19 => rPN H x19 G) →
   ((A5 (some [(.sl [] .tight)]) []).bind fun x16 => bP H (AJ (Ak 1 (.ptr H.length 0 0) x16 (H ++ [.cel 0 [.sl [] .tight]]))) k) = some (.ret (.tup [J1 [], .int .i64 1]), H) := by
  intro k hk
  have hb : A5 (some [(.sl [] .tight)]) [] = some (.agg [.sl [] .tight]) := rfl
  simp only [GMb, GMc, hb, Fu, Ms (sz := 1) (cs := [.sl [] .tight]) (vs := [.sl [] .tight]) (v := .agg [.sl [] .tight]) rfl rfl rfl, Option.map_some, hk, G2, Pg, List.length_singleton, resM_eq, Mv, OB]
  simp only [D0, EI, Ct, CU, K1, FX, Hv, LZ, DJ, GMb, GMc, Option.map_some]
  rfl
 simp only [GMb, GMc, M0 L tk _ (show L.length < 1152921504606846976 by omega)]
 unfold NT
 cases hl : Az L with
 | false =>
  simp only [GMb, GMc]
  exact bad _ fun v G => rfl
 | true =>
  simp only [GMb, GMc, A2]
  by_cases hn0 : n < 0
  ·have : ¬ 0 ≤ n := by omega
   simp only [GMb, GMc, hn0, this]
   exact bad _ fun v G => rfl
  ·have h0' : 0 ≤ n := by omega
   by_cases hn1 : n > L.length
   ·have : ¬ n ≤ L.length := by omega
    simp only [GMb, GMc, hn0, h0', hn1, this, A2]
    exact bad _ fun v G => rfl
   ·obtain ⟨n, rfl⟩ := Int.eq_ofNat_of_zero_le h0'
    have hle : n ≤ L.length := by omega
    have hle' : (n : Int) ≤ (L.length : Int) := by omega
    have hnn : ¬ (n : Int) > (L.length : Int) := hn1
    obtain ⟨s1, s2, s3⟩ := Qu hl hle
    simp only [GMb, GMc, hn0, h0', hnn, hle', A2, q06_shrink L tk n _ (show L.length < 3518437200000 by omega) hl hle, Dg, Ez]
    unfold CE
    simp only [Int.toNat_natCast]
    generalize BR L n = s at s1 s2 s3
    obtain ⟨M, r⟩ := s
    dsimp only at s1 s2 s3 ⊢
    have hmk := Fm (f := cN) (a := 0) (n := M.length + 1) (bytes := 8) (H := H ++ [.cel 0 [.sl [] .tight]]) (by omega) (by omega)
    simp only [show cN 0 = [Aa.int .i64 0] from rfl] at hmk
    simp only [GMb, GMc, FO M .no _ (show M.length < 140737488355327 by omega) s1, A2, Au (show M.length < 9223372036854775807 by omega), hmk]
    have hlvv : (At M (r : Int)).lv.toNat < AI := by
     rw [CT]
     by_cases hr : 0 < r
     ·have := lv_le s1 hr s2; omega
     ·obtain rfl : r = 0 := by omega
      unfold At
      rw [List.getD_eq_getElem?_getD]
      by_cases hM : 0 < M.length
      ·rw [show (((0 : Nat) : Int) - 1).toNat = 0 from rfl, List.getElem?_eq_getElem hM]
       have := (A0 s1 hM).2.1
       simp only [Option.getD_some]; omega
      ·rw [show (((0 : Nat) : Int) - 1).toNat = 0 from rfl, List.getElem?_eq_none (by omega)]; simp
    obtain ⟨H', D', w', v1, v2, v3, v4, v5⟩ := q06_visit (L := M) .no .no (H ++ [Blk.cel 0 [.sl [] .tight]]).length (H ++ [Blk.cel 0 [.sl [] .tight]]).length (by omega) s1 (At M (r : Int)).lv.toNat r AI [] (List.replicate (M.length + 1) 0) (.sl [] .tight) (H ++ [.cel 0 [.sl [] .tight]] ++ [.cel 0 (flat cN (List.replicate (M.length + 1) 0))])
     s2 (.inr rfl) hlvv (Nat.le_refl _) (by simp) ⟨.inl ⟨rfl, rfl⟩, AA⟩ ⟨by simp, by simp, fun j dd hj hdd => by
      have := List.mem_of_getElem? hj
      rw [List.mem_replicate] at this; omega⟩
    have hold : ∀ i, i < H.length + 1 → H'[i]? = (H ++ [Blk.cel 0 [.sl [] .tight]])[i]? := fun i hi => by
     rw [v3.old i (by simpa using hi), List.getElem?_append_left (by simpa using hi)]
    have hc' : H'[H.length]? = some (.cel 0 [.sl [] .tight]) := by rw [hold _ (by omega)]; simp
    have hcl := (List.getElem?_eq_some_iff.1 hc').1
    obtain ⟨tk3, rfl⟩ := v2.sl
    generalize (AB M (Ap M) (At M (r : Int)).lv.toNat r []).1 = Q at v1 v2 v4 ⊢
    have hb : A5 (some [(.sl [] .tight)]) [(0, 1, .sl (enL cNd Q) tk3)] = some (.agg [.sl (enL cNd Q) tk3]) := by simp [A5, G7, D4]
    have hst : Ak 1 (.ptr H.length 0 0) (.agg [.sl (enL cNd Q) tk3]) H' = some (H'.set H.length (.cel 0 [.sl (enL cNd Q) tk3])) := by
     simp only [Ak, AT hc', Option.bind_some, C8 hc']; rfl
    have hld : Ad true 1 (.ptr H.length 0 0) (H'.set H.length (.cel 0 [.sl (enL cNd Q) tk3])) = some (.agg [.sl (enL cNd Q) tk3]) := by
     have : (H'.set H.length (.cel 0 [.sl (enL cNd Q) tk3]))[H.length]? = some (.cel 0 [.sl (enL cNd Q) tk3]) := by rw [List.getElem?_set_self hcl]
     simp only [Ad, AT this, Option.bind_some]; rfl
    have htake : (H'.set H.length (.cel 0 [.sl (enL cNd Q) tk3])).take H.length = H := BN fun i hi => by
     rw [List.getElem?_set_ne (by omega), hold i (by omega), List.getElem?_append_left hi]
    simp only [GMb, GMc, v1, Dg, hb, hst, hld, resM_eq, Mv, OB, Option.map_some, Fw htake, EI, Ct, CU, K1, FX, Hv, LZ, DJ]
    rfl
end Go.Gm
namespace Go.Gm
theorem q01_cut (l : List Bool) (tk : Tok) (H : Ab) (hb : l.length < 1152921504606846976) : Sh.fv (.sl (enL cB l) tk) H = some (.ret (.sl (enL cB (Ff l)) .no), H) := by
 unfold Sh.fv
 refine Bl (σ := List Bool × Tok) (fun s => s.1.length < 1152921504606846976) (fun s => [.sl (enL cB s.1) s.2]) (fun _ => H) (fun s => s.1.length) (fun s => some (.ret (.sl (enL cB (Ff s.1)) .no), H)) (fun s rec hs hrec => ?_) (l, tk) hb hb
 obtain ⟨l, tk⟩ := s
 simp only at hs hrec ⊢
 unfold Sh.f50
 rcases Le l with rfl | ⟨l', b, rfl⟩
 ·simp [cutL_nil]
 ·simp only [List.length_append, List.length_singleton] at hs hrec
  have h1 : l'.length < (l' ++ [b]).length := by simp
  have h2 : ((((l' ++ [b]).length : Nat) : Int) > 0) := by simp
  have h3 : IntKind.i64.wrap ((((l' ++ [b]).length : Nat) : Int) - 1) = (l'.length : Int) := by rw [Ay] <;> simp <;> omega
  simp only [A9, A2, Option.bind_some, CJ, h2, decide_true, Ic, Ei, h3, Av h1, As, List.getElem?_cons_zero, IT, BF, List.getElem_append_right (Nat.le_refl _), Nat.sub_self, List.getElem_cons_zero]
  cases b with
  | true => simp [Nb]
  | false =>
   have := hrec (l', Jt tk 0 l'.length (l' ++ [false]).length false) (by dsimp only; omega) (by simp)
   simp only [Bool.not_false, AL, slice_to (Nat.le_of_lt h1), Option.bind_some, List.take_left', this, L0]
theorem q01_bits (l : List Nat) (tk : Tok) (H : Ab) (hl : l.length ≤ 2199023255552) (hx : Lim l) : Sh.fw (.sl (enL cU l) tk) H = some (.ret (.sl (enL cB (Ff (Ba l))) .no), H) := by
 unfold Sh.fw
 refine BM l.length (fun i => [.sl (enL cU l) tk, EP cB H (Ba (l.take i)), .int .i64 (i : Int)]) (fun i => DU cB DN 1 H (Ba (l.take i))) _ (by omega) (fun rec i hi => ?_) (fun rec => ?_)
 ·have hi' : (i : Int) < (l.length : Int) := by omega
  have hxi : l[i] < 4294967296 := hx _ (List.getElem_mem hi)
  have htk : Ba (l.take (i + 1)) = Ba (l.take i) ++ Ca 32 l[i] := by
   rw [List.take_succ_eq_append_getElem hi, Ba, List.flatMap_append]; simp [Ba]
  have hlen : (Ba (l.take i)).length ≤ 32 * 2199023255552 := by rw [Cr]; simp; omega
  unfold Sh.f2q
  simp only [A9, CG, Da, A2, Option.bind_some, AM, hi', decide_true, AL, Av hi, As, List.getElem?_cons_zero, htk]
  generalize Ba (l.take i) = o at hlen
  generalize l[i] = x at hxi
  refine Bl (σ := Nat × Nat × List Bool) (fun s => s.1 ≤ 32 ∧ s.2.1 < 4294967296 ∧ s.2.2.length ≤ o.length + s.1) (fun s => [.sl (enL cU l) tk, EP cB H s.2.2, .int .i64 (i : Int), .int .u32 (s.2.1 : Int), .int .i64 (s.1 : Int)]) (fun s => DU cB DN 1 H s.2.2) (fun s => 32 - s.1)
   (fun s => rec [.sl (enL cU l) tk, EP cB H (s.2.2 ++ Ca (32 - s.1) s.2.1), .int .i64 ((i + 1 : Nat) : Int)] (DU cB DN 1 H (s.2.2 ++ Ca (32 - s.1) s.2.1))) (fun s rec2 hs hrec => ?_) (0, x, o) ⟨by dsimp only; omega, hxi, by dsimp only; omega⟩ (by dsimp only; omega)
  obtain ⟨k, y, p⟩ := s
  obtain ⟨hk, hy, hp⟩ := hs
  simp only at hk hy hp hrec ⊢
  unfold Sh.f4k
  by_cases h : k < 32
  ·have h' : (k : Int) < 32 := by omega
   have e1 : (y : Int).tmod 2 = ((y % 2 : Nat) : Int) := rfl
   have e2 : IntKind.u32.wrap ((y : Int).tdiv 2) = ((y / 2 : Nat) : Int) := by rw [show (y : Int).tdiv 2 = ((y / 2 : Nat) : Int) from rfl, CM] <;> omega
   have e3 : (((y % 2 : Nat) : Int) == 1) = (y % 2 == 1) := by rw [Bool.eq_iff_iff]; simp only [beq_iff_eq]; omega
   have e4 : IntKind.i64.wrap ((k : Int) + 1) = ((k + 1 : Nat) : Int) := by rw [Ay] <;> omega
   have := hrec (k + 1, y / 2, p ++ [y % 2 == 1]) ⟨h, by dsimp only; omega, by simp; omega⟩ (by dsimp only; omega)
   simp only [A9, CG, Da, FC, Gk, AM, h', decide_true, Option.bind_some, AL, HR (show (2 : Int) ≠ 0 by decide), K7 (show (2 : Int) ≠ 0 by decide), e1, e2, Dj, e3, build_B]
   rw [HT (by simp) (by simp; omega) (by simp; omega)]
   simp only [Cx, Dn, B4, Option.bind_some, e4, this]
   rw [show 32 - k = (32 - (k + 1)) + 1 from by omega, Ca]; simp
  ·have : k = 32 := by omega
   subst this
   have e4 : IntKind.i64.wrap ((i : Int) + 1) = ((i + 1 : Nat) : Int) := by rw [Ay] <;> omega
   simp [Ca, e4]
 ·unfold Sh.f2q
  obtain ⟨G, hG⟩ := LI (f := cB) (ty := DN) (sz := 1) H (Ba l)
  rw [List.take_of_length_le (Nat.le_refl _)]
  simp only [A9, CG, Da, Ha, hG, A2, Option.bind_some, AM, Int.lt_irrefl, decide_false, AH, q01_cut (Ba l) _ _ (by rw [Cr]; omega), Dn, D0, K3, Option.map_some]
end Go.Gm
namespace Go.Gm
theorem q01_of (l : List Bool) (tk : Tok) (H : Ab) (hl : l.length ≤ 70368744177664) : Sh.f27 (.sl (enL cB l) tk) H = some (.ret (.sl (enL cU (Cy (CK l))) .no), H) := by
 unfold Sh.f27
 have hcl := cutL_le l
 rw [q01_cut l tk H (by omega), ← limbsOf_eq, Hr]
 simp only [Dn]
 generalize Ff l = c at hcl
 obtain ⟨n, hn⟩ : ∃ n, n = (c.length + 31) / 32 := ⟨_, rfl⟩
 rw [← hn]
 refine BM n (fun q => [.sl (enL cB c) .no, EP cU H (Cz c q), .int .i64 ((32 * q : Nat) : Int)]) (fun q => DU cU DC 1 H (Cz c q)) _ (by omega) (fun rec q hq => ?_) (fun rec => ?_)
 ·have hq' : ((32 * q : Nat) : Int) < (c.length : Int) := by omega
  unfold Sh.f4m
  simp only [A9, CG, Da, A2, Option.bind_some, AM, hq', decide_true, AL]
  have hlo : (Cz c q).length = q := JU c q
  rw [Hq]
  generalize Cz c q = o at hlo
  refine Bl (σ := Nat) (fun j => j ≤ min 32 (c.length - 32 * q)) (fun j => [.sl (enL cB c) .no, EP cU H o, .int .i64 ((32 * q : Nat) : Int), .int .u32 ((CK ((c.drop (32 * q)).take j) : Nat) : Int), .int .u32 (IntKind.u32.wrap ((2 : Int) ^ j)), .int .i64 ((32 * q + j : Nat) : Int)]) (fun _ => DU cU DC 1 H o) (fun j => 32 - j)
   (fun _ => rec [.sl (enL cB c) .no, EP cU H (o ++ [DW c q]), .int .i64 ((32 * (q + 1) : Nat) : Int)] (DU cU DC 1 H (o ++ [DW c q]))) (fun j rec2 hj hrec => ?_) 0 (by omega) (by omega)
  unfold Sh.f51
  have hw : IntKind.i64.wrap (((32 * q : Nat) : Int) + 32) = ((32 * (q + 1) : Nat) : Int) := by rw [Ay] <;> omega
  by_cases h : j < min 32 (c.length - 32 * q)
  ·have h1 : ((32 * q + j : Nat) : Int) < (c.length : Int) := by omega
   have h1' : 32 * q + j < c.length := by omega
   have h2 : ((32 * q + j : Nat) : Int) < ((32 * (q + 1) : Nat) : Int) := by omega
   have hw2 : IntKind.i64.wrap (((32 * q + j : Nat) : Int) + 1) = ((32 * q + (j + 1) : Nat) : Int) := by rw [Ay] <;> omega
   have htake : (c.drop (32 * q)).take (j + 1) = (c.drop (32 * q)).take j ++ [c[32 * q + j]] := by
    rw [List.take_succ_eq_append_getElem (by simp; omega)]; simp
   have hlen : ((c.drop (32 * q)).take j).length = j := by simp; omega
   have hnat : CK ((c.drop (32 * q)).take (j + 1)) = CK ((c.drop (32 * q)).take j) + (if c[32 * q + j] then 2 ^ j else 0) := by
    rw [htake, ED, hlen]; simp only [CK]; split <;> simp
   have hlt1 := nat1_lt ((c.drop (32 * q)).take j)
   rw [hlen] at hlt1
   have hp : (2 : Nat) ^ j * 2 ≤ 2 ^ 32 := by rw [← Nat.pow_succ]; exact Nat.pow_le_pow_right (by omega) (by omega)
   have hpw : IntKind.u32.wrap ((2 : Int) ^ j) = ((2 ^ j : Nat) : Int) := by
    rw [show ((2 : Int) ^ j) = ((2 ^ j : Nat) : Int) from by simp, CM] <;> omega
   have hadd : IntKind.u32.wrap (((CK ((c.drop (32 * q)).take j) : Nat) : Int) + ((2 ^ j : Nat) : Int)) = ((CK ((c.drop (32 * q)).take j) + 2 ^ j : Nat) : Int) := by rw [CM] <;> omega
   have hmul : IntKind.u32.wrap (((2 ^ j : Nat) : Int) * 2) = IntKind.u32.wrap ((2 : Int) ^ (j + 1)) := by rw [Int.pow_succ]; simp
   have := hrec (j + 1) (by omega) (by omega)
   rw [hnat] at this
   simp only [A9, CG, Da, FC, Gk, KO, A2, Option.bind_some, AM, h1, decide_true, Ic, B4, hw, h2, BF, AL, AN, Av h1', As, List.getElem?_cons_zero, hpw]
   cases hb : c[32 * q + j] with
   | true =>
    rw [hb] at this
    simp only [AL, B4, hadd, Option.bind_some, A9, CG, Da, FC, Gk, KO, Sh.f4l, Ga, hmul, hw2]
    simpa using this
   | false =>
    rw [hb] at this
    simp only [AH, A9, CG, Da, FC, Gk, KO, Sh.f4l, Ga, B4, hmul, hw2, Option.bind_some]
    simpa using this
  ·have hj' : j = min 32 (c.length - 32 * q) := by omega
   have hx : CK ((c.drop (32 * q)).take j) = DW c q := by
    unfold DW
    by_cases h : j = 32
    ·rw [h]
    ·rw [List.take_of_length_le (by simp; omega), List.take_of_length_le (by simp; omega)]
   have tail : ((AD 1 [.int .u32 ((DW c q : Nat) : Int)]).bind fun x40 => bP H (B5 (AE DC 1 4 (EP cU H o) x40 (DU cU DC 1 H o))) fun x41 H42 => (Af .none .add (.int .i64 ((32 * q : Nat) : Int)) (.int .i64 32)).bind fun x43 => rec [.sl (enL cB c) .no, x41, x43] H42)
     = rec [.sl (enL cB c) .no, EP cU H (o ++ [DW c q]), .int .i64 ((32 * (q + 1) : Nat) : Int)] (DU cU DC 1 H (o ++ [DW c q])) := by
    rw [build_U]
    simp only [Option.bind_some]
    rw [HT (by simp) (by simp; omega) (by simp; omega)]
    simp only [Cx, Dn, B4, Option.bind_some, hw]
   rw [hx]
   by_cases h1 : ((32 * q + j : Nat) : Int) < (c.length : Int)
   ·have h2 : ¬ ((32 * q + j : Nat) : Int) < ((32 * (q + 1) : Nat) : Int) := by omega
    simp only [A9, CG, Da, FC, Gk, KO, A2, Option.bind_some, AM, h1, decide_true, Ic, B4, hw, h2, decide_false, BF, AH]
    simpa only [B4, hw, Option.bind_some] using tail
   ·simp only [A9, CG, Da, FC, Gk, KO, A2, Option.bind_some, AM, h1, decide_false, N4, BP, AH]
    exact tail
 ·have hq' : ¬ ((32 * n : Nat) : Int) < (c.length : Int) := by omega
  obtain ⟨G, hG⟩ := LI (f := cU) (ty := DC) (sz := 1) H (Cz c n)
  unfold Sh.f4m
  simp only [A9, CG, Da, Ha, hG, A2, Option.bind_some, AM, hq', decide_false, AH, D0, K3, Option.map_some]
theorem q01_norm (l : List Nat) (tk : Tok) (H : Ab) (hl : l.length ≤ 1099511627776) (hx : Lim l) : Sh.fc (.sl (enL cU l) tk) H = some (.ret (.sl (enL cU (Cy (val l))) .no), H) := by
 have hc := cutL_le (Ba l)
 rw [Cr] at hc
 unfold Sh.fc
 rw [q01_bits l tk H (by omega) hx]
 simp only [ET]
 rw [q01_of _ _ _ (by omega)]
 simp only [ET, J0, QM, OY, val_bits l hx]
end Go.Gm
namespace Go.Gm
end Go.Gm
namespace Go.Gm
def Eo (z : Int) : List Aa := [.bool (decide (z < 0)), .sl (enL cU (Cy z.natAbs)) .no]
def big (z : Int) : Aa := .agg (Eo z)
def LB (z : Int) : Prop := (Cy z.natAbs).length ≤ 549755813888
theorem Rf (z : Int) : (Eo z).all Aa.isScal = true := by simp [Eo]
@[simp] theorem bigC_g0 (z : Int) (h : 0 < (Eo z).length) : (Eo z)[0] = .bool (decide (z < 0)) := (rfl)
@[simp] theorem bigC_g1 (z : Int) (h : 1 < (Eo z).length) : (Eo z)[1] = .sl (enL cU (Cy z.natAbs)) .no := (rfl)
@[simp] theorem bigC_0 (z : Int) : (Eo z)[0]? = some (.bool (decide (z < 0))) := (rfl)
@[simp] theorem bigC_1 (z : Int) : (Eo z)[1]? = some (.sl (enL cU (Cy z.natAbs)) .no) := (rfl)
@[simp] theorem big_acells (z : Int) : (big z).acells = some (Eo z) := E7 (Rf z)
theorem big_sgn (neg : Bool) (n : Nat) : [Aa.bool (sgn neg n), .sl (enL cU (Cy n)) .no] = Eo (if neg then -(n : Int) else n) := by
 unfold Eo
 have e1 : sgn neg n = decide ((if neg then -(n : Int) else (n : Int)) < 0) := by
  unfold sgn
  cases neg with
  | false => simp
  | true =>
   by_cases h : n = 0
   ·subst h; rfl
   ·have : (-(n : Int)) < 0 := by omega
    simp [h, this]; omega
 have e2 : (if neg then -(n : Int) else (n : Int)).natAbs = n := by cases neg <;> simp
 rw [e1, e2]
theorem limsLen_pos (n : Nat) : (decide (((Cy n).length : Int) > 0)) = decide (n ≠ 0) := by
 by_cases h : n = 0
 ·subst h; rw [Kw]; rfl
 ·have := List.length_pos_iff.2 (lims_ne h)
  have h1 : ((Cy n).length : Int) > 0 := by omega
  rw [decide_eq_true h1, decide_eq_true h]
@[simp] theorem fcells_big {H : Ab} {n d : Nat} {z : Int} : D9 H n (d + 2) (Eo z) = some (Eo z) := by simp [Eo]
@[simp] theorem fall_big {H : Ab} {n d : Nat} {z : Int} : ER H n (d + 3) (big z) = some (big z) := by simp [big]
@[simp] theorem fpart_big {H : Ab} {n d : Nat} {z : Int} : Ec H n (d + 3) (big z) = some (big z) := by simp [big]
@[simp] theorem forget_big {z : Int} : forget (big z) = big z := by simp [big, Eo]
@[simp] theorem bigC_length (z : Int) : (Eo z).length = 2 := (rfl)
@[simp] theorem agg_bigC (z : Int) : Aa.agg (Eo z) = big z := (rfl)
@[simp] theorem putN_big (cs : List Aa) (z : Int) (h : cs.length = 2) : D4 cs 0 2 (Eo z) = Eo z := J2 h
theorem boxBig (z : Int) (H : Ab) : Eh true 2 (big z) H = some (.ptr H.length 0 0, H ++ [.cel 0 (Eo z)]) := FZ (Rf z) rfl
theorem q02_sign (neg : Bool) (l : List Nat) (tk : Tok) (H : Ab) (hl : l.length ≤ 1099511627776) (hx : Lim l) : Sh.f28 (.bool neg) (.sl (enL cU l) tk) H = some (.ret (big (if neg then -(val l : Int) else val l)), H) := by
 unfold Sh.f28 big
 rw [← big_sgn]
 have hp := limsLen_pos (val l)
 cases neg with
 | false => simp [q01_norm _ _ _ hl hx, A5, G7, D4, sgn, E7]
 | true =>
  simp only [Ic, BF, Option.bind_some, A2, CJ, hp, sgn, Bool.true_and, alloc_eq (cs := [.bool false, .sl [] .tight]) rfl, BD, q01_norm _ _ _ hl hx, Dn]
  simp [A5, G7, D4, E7]
theorem big_eq (z : Int) : big z = .agg [.bool (decide (z < 0)), .sl (enL cU (Cy z.natAbs)) .no] := rfl
theorem LB.neg {a : Int} (h : LB a) : LB (-a) := by unfold LB at *; rwa [Int.natAbs_neg]
end Go.Gm
namespace Go.Gm
theorem Ql {n : Int} (h0 : -18446744073709551616 ≤ n) (h : n < 0) : IntKind.u64.wrap n = n + 18446744073709551616 := by
 have h1 : IntKind.u64.bits = 64 := rfl
 have h2 : IntKind.u64.signed = false := rfl
 unfold IntKind.wrap
 simp only [h1, h2, Bool.false_and, Bool.false_eq_true, if_false]
 omega
theorem build_2U (x y : Nat) : AD 1 [.int .u32 (x : Int), .int .u32 (y : Int)] = some (.sl (enL cU [x, y]) .tight) := by simp [AD, BS, Lt, Bf, Aa.acells, enL]
theorem q02_of (n : Int) (H : Ab) (h0 : -9223372036854775808 ≤ n) (h1 : n ≤ 9223372036854775807) : Sh.fi (.int .i64 n) H = some (.ret (big n), H) := by
 obtain ⟨u, hu⟩ : ∃ u : Nat, u = n.natAbs := ⟨_, rfl⟩
 have hlim : Lim [u % 4294967296, u / 4294967296] := fun x hx => by
  simp at hx
  rcases hx with rfl | rfl <;> omega
 have hval : val [u % 4294967296, u / 4294967296] = u := by simp [val]; omega
 have ez : (if decide (n < 0) = true then -(u : Int) else (u : Int)) = n := by
  by_cases h : n < 0 <;> simp [h] <;> omega
 have a1 := fun H => q02_sign (decide (n < 0)) [u % 4294967296, u / 4294967296] .tight H (by simp) hlim
 simp only [hval, ez] at a1
 have e1 : ((u : Int).tmod 4294967296) = ((u % 4294967296 : Nat) : Int) := rfl
 have e2 : IntKind.u64.wrap ((u : Int).tdiv 4294967296) = ((u / 4294967296 : Nat) : Int) := by rw [show (u : Int).tdiv 4294967296 = ((u / 4294967296 : Nat) : Int) from rfl, C6] <;> omega
 have e3 : IntKind.u32.wrap ((u % 4294967296 : Nat) : Int) = ((u % 4294967296 : Nat) : Int) := by rw [CM] <;> omega
 have e4 : IntKind.u32.wrap ((u / 4294967296 : Nat) : Int) = ((u / 4294967296 : Nat) : Int) := by rw [CM] <;> omega
 have j1 : Sh.f4n H (.int .i64 n) (.ptr H.length 0 0) (.int .u64 (u : Int)) (H ++ [.cel 0 [.bool false, .sl [] .tight]]) = some (.ret (big n), H) := by
  unfold Sh.f4n
  simp only [AM, Option.bind_some, HR (show (4294967296 : Int) ≠ 0 by decide), K7 (show (4294967296 : Int) ≠ 0 by decide), e1, e2, BJ, e3, e4, build_2U, a1, Dn]
  simp
 unfold Sh.fi
 simp only [alloc_eq (cs := [.bool false, .sl [] .tight]) rfl, BD, BJ, Option.bind_some, AN, AM, A9, CG, Da]
 by_cases h : n < 0
 ·have w : IntKind.u64.wrap (0 - IntKind.u64.wrap n) = (u : Int) := by
   rw [Ql (n := n) (by omega) h, Ql (by omega) (by omega)]; omega
  have un : unA .neg (.int .u64 (IntKind.u64.wrap n)) = some (.int .u64 (u : Int)) := by
   rw [show unA .neg (.int .u64 (IntKind.u64.wrap n)) = some (.int .u64 (IntKind.u64.wrap (0 - IntKind.u64.wrap n))) from rfl, w]
  rw [decide_eq_true h]
  simp only [AL, un, Option.bind_some, A9, CG, Da]
  exact j1
 ·have w : IntKind.u64.wrap n = (u : Int) := by rw [C6 (by omega) (by omega)]; omega
  rw [decide_eq_false h]
  simp only [AH, w, A9, CG, Da]
  exact j1
end Go.Gm
namespace Go.Gm
structure Cl where
 x : Int
 y : Int
 s : UInt8
deriving DecidableEq
def cCl (c : Cl) : List Aa := [.bool (decide (c.x < 0)), .sl (enL cU (Cy c.x.natAbs)) .no, .bool (decide (c.y < 0)), .sl (enL cU (Cy c.y.natAbs)) .no, .int .u8 (c.s.toNat : Int)]
instance : Sz cCl 5 := ⟨fun _ => rfl⟩
instance : Pl cCl := ⟨fun _ => rfl⟩
def cBig (z : Int) : List Aa := Eo z
instance : Sz cBig 2 := ⟨fun _ => rfl⟩
instance : Pl cBig := ⟨fun _ => rfl⟩
def SB (k : Nat) (z : Int) : Prop := z.natAbs < 4294967296 ^ k
theorem SB.mono {k m : Nat} {z : Int} (h : SB k z) (hm : k ≤ m) : SB m z := Nat.lt_of_lt_of_le h (pow_le32 hm)
theorem SB.add {k : Nat} {a b : Int} (ha : SB k a) (hb : SB k b) : SB (k + 1) (a + b) := by
 unfold SB at *
 have : 4294967296 ^ (k + 1) = 4294967296 ^ k * 4294967296 := Nat.pow_succ _ _
 omega
theorem SB.neg {k : Nat} {a : Int} (ha : SB k a) : SB k (-a) := by unfold SB at *; rwa [Int.natAbs_neg]
theorem SB.sub {k : Nat} {a b : Int} (ha : SB k a) (hb : SB k b) : SB (k + 1) (a - b) := by rw [Int.sub_eq_add_neg]; exact ha.add hb.neg
def Cl.ok (c : Cl) : Prop := SB 100 c.x ∧ SB 100 c.y
section
variable {H G : Ab} {p : Nat} {c : Cl} {z : Int}
theorem store_bigP {cs : List Aa} (hg : H[p]? = some (.cel 0 cs)) (hl : cs.length = 2) : Ak 2 (.ptr p 0 0) (big z) H = some (H.set p (.cel 0 (Eo z))) := by
 simp only [Ak, AT hg, Option.bind_some, big_acells, C8 hg, J2 hl]
 rw [if_pos ⟨rfl, by omega⟩]
theorem By {i : Nat} {x : Blk} (h : H[i]? = some x) : (H ++ G)[i]? = some x := by
 have := (List.getElem?_eq_some_iff.1 h).1
 rw [List.getElem?_append_left this]; exact h

end
end Go.Gm
namespace Go.Gm
theorem elems_sl {α : Type} {f : α → List Aa} {l : List α} {tk : Tok} {sz : Nat} {H : Ab} [hf : Sz f sz] : B9 sz (.sl (enL f l) tk) H = some (enL f l) := by
 simp [B9, all_enL]
end Go.Gm
namespace Go.Gm
end Go.Gm
namespace Go.Gm
def PS (b : Nat) (out : List Nd) (v : Aa) (H : Ab) : Prop := (out = [] ∧ v = .sl [] .tight) ∨ ∃ t, b ≤ t ∧ v = .sl (enL cNd out) (.own t) ∧ H[t]? = some (.tok out.length Aq 5)
structure Kp (b : Nat) (H H' : Ab) : Prop where
 len : H.length ≤ H'.length
 cel : ∀ (i : Nat) (cs : List Aa), H[i]? = some (.cel 0 cs) → H'[i]? = some (.cel 0 cs)
 old : ∀ i, i < b → H'[i]? = H[i]?
theorem Kp.refl (b : Nat) (H : Ab) : Kp b H H := ⟨Nat.le_refl _, fun _ _ h => h, fun _ _ => rfl⟩
theorem Kp.trans {b : Nat} {H H1 H2 : Ab} (h : Kp b H H1) (h' : Kp b H1 H2) : Kp b H H2 :=
 ⟨Nat.le_trans h.len h'.len, fun i cs hc => h'.cel i cs (h.cel i cs hc), fun i hi => (h'.old i hi).trans (h.old i hi)⟩
theorem Kp.app {b : Nat} {H : Ab} (hb : b ≤ H.length) (G : Ab) : Kp b H (H ++ G) :=
 ⟨by simp, fun i cs h => By h, fun i hi => by rw [List.getElem?_append_left (by omega)]⟩
theorem PS.sl {b : Nat} {out : List Nd} {v : Aa} {H : Ab} (h : PS b out v H) : ∃ tk, v = .sl (enL cNd out) tk := by
 rcases h with ⟨rfl, rfl⟩ | ⟨t, _, rfl, _⟩
 ·exact ⟨_, rfl⟩
 ·exact ⟨_, rfl⟩
theorem PS.left {b : Nat} {out : List Nd} {v : Aa} {H : Ab} (h : PS b out v H) (G : Ab) : PS b out v (H ++ G) := by
 rcases h with h1 | ⟨t, h1, h2, h3⟩
 ·exact .inl h1
 ·exact .inr ⟨t, h1, h2, By h3⟩
theorem PS.put {b p : Nat} {out : List Nd} {v : Aa} {H : Ab} {c c' : List Aa} (h : PS b out v H) (hp : H[p]? = some (.cel 0 c)) : PS b out v (H.set p (.cel 0 c')) := by
 rcases h with h1 | ⟨t, h1, h2, h3⟩
 ·exact .inl h1
 ·refine .inr ⟨t, h1, h2, ?_⟩
  have : p ≠ t := fun e => by rw [← e, hp] at h3; cases h3
  rw [List.getElem?_set_ne this]; exact h3
theorem PS.snoc {b : Nat} {out : List Nd} {v : Aa} {H : Ab} (h : PS b out v H) (hb : b ≤ H.length) (x : Nd) (hl : out.length < 3518437208883) :
  ∃ v' H', AE Aq 5 40 v (.sl (enL cNd [x]) .tight) H = some (v', H') ∧ PS b (out ++ [x]) v' H' ∧ Kp b H H' := by
 rcases h with ⟨rfl, rfl⟩ | ⟨t, h1, rfl, h3⟩
 ·have := Cj (f := cNd) (l := []) (m := [x]) (ty := Aq) (bytes := 40) (tk := .tight) (H := H) (by simp) (by simp) (by simp)
  exact ⟨_, _, this, .inr ⟨H.length, hb, rfl, by simp⟩, Kp.app hb _⟩
 ·have := DA (f := cNd) (l := out) (m := [x]) (ty := Aq) (bytes := 40) (tk := .tight) (H := H) (t := t) (by simp) h3 (by simp; omega) (by simp; omega)
  have htl := (List.getElem?_eq_some_iff.1 h3).1
  refine ⟨_, _, this, .inr ⟨t, h1, rfl, by simp [htl]⟩, ⟨by simp, fun i cs hc => ?_, fun i hi => ?_⟩⟩
  ·have : t ≠ i := fun e => by rw [← e, h3] at hc; cases hc
   rw [List.getElem?_set_ne this]; exact hc
  ·rw [List.getElem?_set_ne (by omega)]
def TOPk (k : Nat) : Nat := 2 ^ k
def TOP : Nat := TOPk 1400
def Cn (v : Nat) (z : Int) : Prop := z.natAbs + 2 ^ v ≤ TOP
theorem abs_pow2 (v : Nat) : ((2 : Int) ^ v).natAbs = 2 ^ v := by rw [Int.natAbs_pow]; rfl
theorem Cn.add {v : Nat} {z : Int} (h : Cn (v + 1) z) : Cn v (z + 2 ^ v) ∧ Cn v z := by
 unfold Cn at *
 have e : (2 : Nat) ^ (v + 1) = 2 ^ v * 2 := Nat.pow_succ _ _
 have h1 := Int.natAbs_add_le z (2 ^ v)
 rw [abs_pow2] at h1
 omega
end Go.Gm
namespace Go.Gm
section
variable {Hc : Ab} {a c : List Aa} {z : Int}
theorem st1 (hc : c.length = 2) : Ak 2 (.ptr (Hc.length + 1) 0 0) (big z) (Hc ++ [Blk.cel 0 a] ++ [Blk.cel 0 c]) = some (Hc ++ [Blk.cel 0 a] ++ [Blk.cel 0 (Eo z)]) := by
 rw [store_bigP (cs := c) (by simp) hc]; simp

end
end Go.Gm
namespace Go.Gm
end Go.Gm
namespace Go.Gm
end Go.Gm
namespace Go.Gm
structure RC where
 n1 : Bool
 l1 : List Nat
 n2 : Bool
 l2 : List Nat
 s : UInt8
def cRC (r : RC) : List Aa := [.bool r.n1, .sl (enL cU r.l1) .no, .bool r.n2, .sl (enL cU r.l2) .no, .int .u8 (r.s.toNat : Int)]
instance : Sz cRC 5 := ⟨fun _ => rfl⟩
end Go.Gm
namespace Go.Gm
end Go.Gm
namespace Go.Gm
def L8 (c : UInt8) : Bool := decide (33 ≤ c.toNat ∧ c.toNat ≤ 126)
theorem q04_sign (c : UInt8) (H : Ab) : Sh.f22 (.int .u8 (c.toNat : Int)) H = some (.ret (.bool (L8 c)), H) := by
 unfold Sh.f22 L8
 by_cases h : (33 : Int) ≤ c.toNat
 ·have : 33 ≤ c.toNat := by omega
  simp [h, this]; omega
 ·have : ¬ 33 ≤ c.toNat := by omega
  simp [h, this]
def Ia (s : List UInt8) : Bool := s.all L8 && decide (1 ≤ s.length ∧ s.length ≤ 40)
theorem q04_rule (s : List UInt8) (H : Ab) (hs : s.length < 1152921504606846976) : Sh.f23 (.str s) H = some (.ret (.bool (Ia s)), H) := by
 unfold Sh.f23
 refine Bl (σ := Nat) (fun i => i ≤ s.length ∧ (s.take i).all L8 = true) (fun i => [.str s, .int .i64 (i : Int)]) (fun _ => H) (fun i => s.length - i) (fun _ => some (.ret (.bool (Ia s)), H)) (fun i rec hi hrec => ?_) 0 ⟨by omega, by simp⟩ (by omega)
 obtain ⟨hi, hall⟩ := hi
 unfold Sh.f4z
 by_cases h : i < s.length
 ·have hx : (i : Int) < (s.length : Int) := by omega
  simp only [A9, CG, EA, Option.bind_some, AM, hx, decide_true, AL, FV h, q04_sign, ET, IT]
  cases hc : L8 s[i] with
  | false =>
   have : Ia s = false := by
    simp only [Ia, Bool.and_eq_false_iff]; left
    rw [List.all_eq_false]; exact ⟨s[i], List.getElem_mem h, by simp [hc]⟩
   simp [this]
  | true =>
   have := hrec (i + 1) ⟨h, by rw [List.take_succ_eq_append_getElem h, List.all_append]; simp [hall, hc]⟩ (by omega)
   simp (disch := omega) [Ay]
   simpa using this
 ·have hx : ¬ (i : Int) < (s.length : Int) := by omega
  have he : s.take i = s := List.take_of_length_le (by omega)
  rw [he] at hall
  by_cases h1 : (1 : Int) ≤ s.length
  ·simp [hx, h1, Ia, hall]
   by_cases h2 : s.length ≤ 40
   ·have : (s.length : Int) ≤ 40 := by omega
    simp [this, h2]; omega
   ·have : ¬ (s.length : Int) ≤ 40 := by omega
    simp [this, h2]
  ·have : s = [] := List.eq_nil_of_length_eq_zero (by omega)
   subst this
   have hz : i = 0 := by simpa using hi
   subst hz; simp [Ia]
end Go.Gm
namespace Go.Gm
def RC.lim (r : RC) : Prop := Lim r.l1 ∧ Lim r.l2
def PW (rule : List UInt8) (L : List Nd) : List Aa := [.str rule, .sl (enL cNd L) .no]
def pat (rule : List UInt8) (L : List Nd) : Aa := .agg (PW rule L)
theorem boxPat (rule : List UInt8) (L : List Nd) (H : Ab) : Eh true 2 (pat rule L) H = some (.ptr H.length 0 0, H ++ [.cel 0 (PW rule L)]) := FZ rfl rfl
section
variable {H : Ab} {p : Nat} {rule : List UInt8} {L : List Nd}
theorem Ph (hg : H[p]? = some (.cel 0 (PW rule L))) : Ad false 1 (.ptr p 0 0) H = some (.str rule) := by
 simp only [Ad, AT hg, Option.bind_some]; rfl
theorem Pi (hg : H[p]? = some (.cel 0 (PW rule L))) : Ad true 1 (.ptr p 0 1) H = some (J1 L) := by
 simp only [Ad, AT hg, Option.bind_some]; rfl
theorem load_patP (hg : H[p]? = some (.cel 0 (PW rule L))) : Ad true 2 (.ptr p 0 0) H = some (pat rule L) := by
 simp only [Ad, AT hg, Option.bind_some]; rfl

end
theorem q11_right (rule : List UInt8) (L : List Nd) (H : Ab) (hr : rule.length < 1152921504606846976) (hL : L.length < 17592186044415) : Sh.ft (pat rule L) H = some (.ret (.bool (Ia rule && DT L)), H) := by
 unfold Sh.ft
 have e1 : (H ++ [Blk.cel 0 (PW rule L)])[H.length]? = some (.cel 0 (PW rule L)) := AA
 simp only [GMb, GMc, boxPat, Aj, Nat.zero_add, Nat.add_zero, Ph e1, q04_rule rule _ hr]
 cases Ia rule with
 | false => simp only [GMb, GMc, LF]
 | true => simp only [GMb, GMc, Aj, Nat.zero_add, Pi e1, J1, CP, q05_right L .no _ hL, LF]
def LX (a b : Int) : Bool := decide (0 ≤ a) && decide (a ≤ 1000) && decide (0 ≤ b) && decide (b ≤ 100000)
end Go.Gm
namespace Go.Gm
inductive QT where
 | nil
 | leaf (a b c d : Int)
 | node (a b c d : QT)
deriving DecidableEq
def semF (L : List Nd) (E : List Bool) : Nat → Nat → QT
 | 0, _ => .nil
 | v + 1, n =>
  if E.getD n true then .nil
  else if 1 < (At L n).lv then .node (semF L E v (At L n).k0.toNat) (semF L E v (At L n).k1.toNat) (semF L E v (At L n).k2.toNat) (semF L E v (At L n).k3.toNat)
  else .leaf (At L n).k0 (At L n).k1 (At L n).k2 (At L n).k3
abbrev sem (L : List Nd) (v n : Nat) : QT := semF L (Ap L) v n
def St (a : Int) : Prop := 0 ≤ a ∧ a ≤ 255
def Good : Nat → QT → Prop
 | _, .nil => True
 | v, .leaf a b c d => v = 1 ∧ (St a ∧ St b ∧ St c ∧ St d) ∧ ¬ (a = 0 ∧ b = 0 ∧ c = 0 ∧ d = 0)
 | v, .node a b c d => 2 ≤ v ∧ v ≤ 1329 ∧ (Good (v - 1) a ∧ Good (v - 1) b ∧ Good (v - 1) c ∧ Good (v - 1) d) ∧ ¬ (a = .nil ∧ b = .nil ∧ c = .nil ∧ d = .nil)
def Lv (L : List Nd) (v n : Nat) : Prop := n ≤ L.length ∧ (n = 0 ∨ (At L n).lv.toNat = v)
theorem Lv.kid {L : List Nd} (hl : Az L = true) {v n k : Nat} (h0 : 0 < n) (h : Lv L (v + 1) n) (h1 : 1 < (At L n).lv) (hk : k < 4) : Lv L v ((At L n).kid k).toNat ∧ ((At L n).kid k).toNat < n ∧ 0 ≤ (At L n).kid k := by
 obtain ⟨m, rfl⟩ : ∃ m, n = m + 1 := ⟨n - 1, by omega⟩
 have hm : m < L.length := h.1
 obtain ⟨l1, l2, l3⟩ := A0 hl hm
 have hx : At L ((m + 1 : Nat) : Int) = L[m] := AK hm
 have hv := h.2
 rw [hx] at h1 hv ⊢
 obtain ⟨q1, q2, q3⟩ := l3 k hk
 by_cases hc : 0 < L[m].kid k
 ·obtain ⟨r1, r2⟩ := q3 h1 hc
  obtain ⟨c, hcc⟩ : ∃ c : Nat, L[m].kid k = ((c + 1 : Nat) : Int) := ⟨(L[m].kid k - 1).toNat, by omega⟩
  have hcl : c < L.length := by omega
  have := r2 L[c] (by rw [show (L[m].kid k - 1).toNat = c from by omega]; exact List.getElem?_eq_getElem hcl)
  rw [hcc, show (((c + 1 : Nat) : Int)).toNat = c + 1 from by omega]
  refine ⟨⟨by omega, .inr ?_⟩, by omega, by omega⟩
  rw [AK hcl]; omega
 ·rw [show (L[m].kid k).toNat = 0 from by omega]
  exact ⟨⟨Nat.zero_le _, .inl rfl⟩, by omega, q1⟩
theorem emp_iff {L : List Nd} (hl : Az L = true) {n : Nat} (h0 : 0 < n) (hn : n ≤ L.length) : (Ap L).getD n true = (List.range 4).all fun k => decide ((At L n).kid k = 0) || (decide (1 < (At L n).lv) && (Ap L).getD ((At L n).kid k).toNat true) := by
 obtain ⟨m, rfl⟩ : ∃ m, n = m + 1 := ⟨n - 1, by omega⟩
 have hm : m < L.length := hn
 have hpre : ∀ (r l : List Nd), ∃ s, Ap (l ++ r) = Ap l ++ s := by
  intro r
  induction r with
  | nil => intro l; exact ⟨[], by simp⟩
  | cons x r ih =>
   intro l
   obtain ⟨s, hs⟩ := ih (l ++ [x])
   exact ⟨[Lz (Ap l) x] ++ s, by rw [show l ++ x :: r = l ++ [x] ++ r from by simp, hs, G8]; simp⟩
 have hL : L = L.take m ++ [L[m]] ++ L.drop (m + 1) := by
  rw [← List.take_succ_eq_append_getElem hm, List.take_append_drop]
 obtain ⟨s, hs⟩ := hpre (L.drop (m + 1)) (L.take m ++ [L[m]])
 rw [← hL, G8] at hs
 have hlen : (Ap (L.take m)).length = m + 1 := by rw [BY]; simp; omega
 have hat : (Ap L).getD (m + 1) true = Lz (Ap (L.take m)) L[m] := by
  rw [hs, List.getD_eq_getElem?_getD, List.getElem?_append_left (by simp [hlen]), List.getElem?_append_right (by omega), hlen]; simp
 rw [hat, AK hm]
 obtain ⟨l1, l2, l3⟩ := A0 hl hm
 unfold Lz
 have hk : ∀ k, k < 4 → (decide (1 < L[m].lv) && (Ap (L.take m)).getD (L[m].kid k).toNat true) = (decide (1 < L[m].lv) && (Ap L).getD (L[m].kid k).toNat true) := by
  intro k hk
  obtain ⟨q1, q2, q3⟩ := l3 k hk
  by_cases h1 : 1 < L[m].lv
  ·have hlt : (L[m].kid k).toNat < m + 1 := by
    by_cases hc : 0 < L[m].kid k
    ·have := (q3 h1 hc).1; omega
    ·omega
   congr 1
   rw [hs, List.append_assoc, List.getD_eq_getElem?_getD, List.getD_eq_getElem?_getD, List.getElem?_append_left (by omega)]
  ·simp [h1]
 rw [Lh, Lh, hk 0 (by omega), hk 1 (by omega), hk 2 (by omega), hk 3 (by omega)]
end Go.Gm
namespace Go.Gm
structure Clean (out : List Nd) : Prop where
 lo : Az out = true
 nd : out.Nodup
 ne : ∀ n, 0 < n → n ≤ out.length → (Ap out).getD n true = false
theorem Clean.nil : Clean [] := ⟨rfl, List.nodup_nil, fun n h1 h2 => by simp at h2; omega⟩
theorem empL_pre : ∀ (r l : List Nd), ∃ s, Ap (l ++ r) = Ap l ++ s := by
 intro r
 induction r with
 | nil => intro l; exact ⟨[], by simp⟩
 | cons x r ih =>
  intro l
  obtain ⟨s, hs⟩ := ih (l ++ [x])
  exact ⟨[Lz (Ap l) x] ++ s, by rw [show l ++ x :: r = l ++ [x] ++ r from by simp, hs, G8]; simp⟩
theorem empL_old {l r : List Nd} {n : Nat} (h : n ≤ l.length) : (Ap (l ++ r)).getD n true = (Ap l).getD n true := by
 obtain ⟨s, hs⟩ := empL_pre r l
 rw [hs, List.getD_eq_getElem?_getD, List.getD_eq_getElem?_getD, List.getElem?_append_left (by rw [BY]; omega)]
theorem OX {l r : List Nd} {n : Nat} (h0 : 0 < n) (h : n ≤ l.length) : At (l ++ r) (n : Int) = At l (n : Int) := by
 obtain ⟨m, rfl⟩ : ∃ m, n = m + 1 := ⟨n - 1, by omega⟩
 rw [AK (show m < (l ++ r).length by simp; omega), AK (show m < l.length by omega), List.getElem_append_left (by omega)]
theorem LA {l r : List Nd} (hl : Az l = true) : ∀ v n, Lv l v n → sem (l ++ r) v n = sem l v n
 | 0, n, h => rfl
 | v + 1, n, h => by
  unfold sem
  simp only [semF, empL_old h.1]
  split
  ·rfl
  ·rename_i he
   have h0 : 0 < n := emp_pos (by simpa using he)
   rw [OX h0 h.1]
   split
   ·rename_i h1
    have e : ∀ k, k < 4 → sem (l ++ r) v ((At l n).kid k).toNat = sem l v ((At l n).kid k).toNat := fun k hk => LA hl v _ (Lv.kid hl h0 h h1 hk).1
    have e0 := e 0 (by omega)
    have e1 := e 1 (by omega)
    have e2 := e 2 (by omega)
    have e3 := e 3 (by omega)
    simp only [Nd.kid, sem] at e0 e1 e2 e3
    rw [e0, e1, e2, e3]
   ·rfl
theorem Lv.old {l r : List Nd} {v n : Nat} (h : Lv l v n) : Lv (l ++ r) v n := by
 refine ⟨by have := h.1; simp; omega, ?_⟩
 rcases h.2 with h0 | h0
 ·exact .inl h0
 ·by_cases hn : 0 < n
  ·exact .inr (by rw [OX hn h.1]; exact h0)
  ·exact .inl (by omega)
structure Fit (o : List Nd) (x : Nd) (v : Nat) (t : QT) : Prop where
 lv : x.lv = (v : Int)
 v1 : 1 ≤ v ∧ v ≤ 1329
 kid : (1 < v ∧ t = .node (sem o (v - 1) x.k0.toNat) (sem o (v - 1) x.k1.toNat) (sem o (v - 1) x.k2.toNat) (sem o (v - 1) x.k3.toNat) ∧ ∀ k, k < 4 → 0 ≤ x.kid k ∧ Lv o (v - 1) (x.kid k).toNat) ∨ (v = 1 ∧ t = .leaf x.k0 x.k1 x.k2 x.k3 ∧ ∀ k, k < 4 → St (x.kid k))
 ne : ∃ k, k < 4 ∧ x.kid k ≠ 0
theorem Fit.old {o r : List Nd} (hc : Clean o) {x : Nd} {v : Nat} {t : QT} (h : Fit o x v t) : Fit (o ++ r) x v t := by
 refine ⟨h.lv, h.v1, ?_, h.ne⟩
 rcases h.kid with ⟨h1, h3, h2⟩ | ⟨h1, h3, h2⟩
 ·left
  refine ⟨h1, ?_, fun k hk => ⟨(h2 k hk).1, (h2 k hk).2.old⟩⟩
  have e0 := LA (r := r) hc.lo _ _ (h2 0 (by omega)).2
  have e1 := LA (r := r) hc.lo _ _ (h2 1 (by omega)).2
  have e2 := LA (r := r) hc.lo _ _ (h2 2 (by omega)).2
  have e3 := LA (r := r) hc.lo _ _ (h2 3 (by omega)).2
  simp only [Nd.kid] at e0 e1 e2 e3
  rw [e0, e1, e2, e3]; exact h3
 ·exact .inr ⟨h1, h3, h2⟩
end Go.Gm
namespace Go.Gm
def QT.q : QT → Nat → QT
 | .node a b c d, k => match k with | 0 => a | 1 => b | 2 => c | _ => d
 | _, _ => .nil
def QT.s : QT → Nat → Int
 | .leaf a b c d, k => match k with | 0 => a | 1 => b | 2 => c | _ => d
 | _, _ => 0
theorem Good.q {v : Nat} {t : QT} (h : Good v t) (k : Nat) : Good (v - 1) (t.q k) := by
 cases t with
 | nil => trivial
 | leaf a b c d => trivial
 | node a b c d =>
  obtain ⟨h1, h2, ⟨ga, gb, gc, gd⟩, _⟩ := h
  unfold QT.q
  dsimp only
  split <;> assumption
theorem Good.some {v : Nat} {t : QT} (h : Good v t) (hn : t ≠ .nil) : ∃ j, j < 4 ∧ ((v = 1 ∧ t.s j ≠ 0) ∨ (1 < v ∧ t.q j ≠ .nil)) := by
 cases t with
 | nil => exact absurd rfl hn
 | leaf a b c d =>
  obtain ⟨h1, _, h2⟩ := h
  by_cases h0 : a = 0
  ·by_cases h3 : b = 0
   ·by_cases h4 : c = 0
    ·exact ⟨3, by omega, .inl ⟨h1, fun h5 => h2 ⟨h0, h3, h4, h5⟩⟩⟩
    ·exact ⟨2, by omega, .inl ⟨h1, h4⟩⟩
   ·exact ⟨1, by omega, .inl ⟨h1, h3⟩⟩
  ·exact ⟨0, by omega, .inl ⟨h1, h0⟩⟩
 | node a b c d =>
  obtain ⟨h1, _, _, h2⟩ := h
  by_cases h0 : a = .nil
  ·by_cases h3 : b = .nil
   ·by_cases h4 : c = .nil
    ·exact ⟨3, by omega, .inr ⟨by omega, fun h5 => h2 ⟨h0, h3, h4, h5⟩⟩⟩
    ·exact ⟨2, by omega, .inr ⟨by omega, h4⟩⟩
   ·exact ⟨1, by omega, .inr ⟨by omega, h3⟩⟩
  ·exact ⟨0, by omega, .inr ⟨by omega, h0⟩⟩
section
variable {L : List Nd}
end
end Go.Gm
namespace Go.Gm
theorem Lv.num {L : List Nd} {v n : Nat} (h : Lv L v n) (h0 : 0 < n) (hl : Az L = true) : (At L (n : Int)).lv = (v : Int) ∧ 1 ≤ v := by
 have hv : (At L (n : Int)).lv.toNat = v := by rcases h.2 with h | h <;> omega
 obtain ⟨m, rfl⟩ : ∃ m, n = m + 1 := ⟨n - 1, by omega⟩
 rw [AK h.1] at hv ⊢
 have := (A0 hl h.1).1
 omega
end Go.Gm
namespace Go.Gm
end Go.Gm
namespace Go.Gm
end Go.Gm
namespace Go.Gm
def maxK (m : Int) (x : Nd) : Nat → Int
 | 0 => m
 | k + 1 => max (maxK m x k) (x.kid k)
def JQ (L : List Nd) : Int := L.foldl (fun m x => if x.lv = 1 then maxK m x 4 else m) 0
theorem quad_eq (L : List Nd) : J1 L = .agg [.sl (enL cNd L) .no] := rfl
theorem boxQ (L : List Nd) (H : Ab) : Eh true 1 (J1 L) H = some (.ptr H.length 0 0, H ++ [.cel 0 (CP L)]) := FZ rfl rfl
section
variable {H : Ab} {p : Nat} {L : List Nd}
theorem DG (hg : H[p]? = some (.cel 0 (CP L))) : Ad false 1 (.ptr p 0 0) H = some (.sl (enL cNd L) .no) := by
 simp only [Ad, AT hg, Option.bind_some]; rfl
theorem Oe (hg : H[p]? = some (.cel 0 (CP L))) : Ad true 1 (.ptr p 0 0) H = some (J1 L) := by
 simp only [Ad, AT hg, Option.bind_some]; rfl

end
theorem q08_most (L : List Nd) (H : Ab) (hL : L.length < 1152921504606846976) : Sh.f13 (J1 L) H = some (.ret (.int .u8 (IntKind.u8.wrap (JQ L))), H) := by
 unfold Sh.f13
 have e1 : (H ++ [Blk.cel 0 (CP L)])[H.length]? = some (.cel 0 (CP L)) := AA
 simp only [GMb, GMc, boxQ]
 refine BM (G := fun rec1 vs H1 => Sh.f3n H rec1 (ag vs 0) (ag vs 1) (ag vs 2) H1) L.length (fun i => [.ptr H.length 0 0, .int .i64 (JQ (L.take i)), .int .i64 (i : Int)]) (fun _ => H ++ [.cel 0 (CP L)]) _ hL (fun rec i hi => ?_) (fun rec => ?_)
 ·have hi' : (i : Int) < (L.length : Int) := by omega
  have hws := Au (show i < 9223372036854775807 by omega)
  have hm : JQ (L.take (i + 1)) = if L[i].lv = 1 then maxK (JQ (L.take i)) L[i] 4 else JQ (L.take i) := by
   unfold JQ
   rw [List.take_succ_eq_append_getElem hi, List.foldl_append]; rfl
  rw [hm]
  generalize JQ (L.take i) = m
  unfold Sh.f3n
  simp only [GMb, GMc, Aj, Nat.zero_add, DG e1, A2, hi']
  by_cases hlv : L[i].lv = 1
  ·rw [if_pos hlv]
   refine BM (G := fun rec2 vs H1 => Sh.f2o H rec rec2 (ag vs 0) (ag vs 1) (ag vs 2) (ag vs 3) H1) 4 (fun k => [.ptr H.length 0 0, .int .i64 (maxK m L[i] k), .int .i64 (i : Int), .int .i64 (k : Int)]) (fun _ => H ++ [.cel 0 (CP L)]) _ (by decide) (fun rec2 k hk => ?_) (fun rec2 => ?_)
   ·have hk' : (k : Int) < 4 := by omega
    unfold Sh.f2o
    simp only [GMb, GMc, Ah, Aj, As, Nat.zero_add, Nat.add_zero, Nat.mul_one, Bc, hk', DG e1, Av hi, hlv, C0 hk, Cm hk, max_int, Au (show k < 9223372036854775807 by omega), maxK]
   ·have hf : ¬ (((4 : Nat) : Int) < 4) := by decide
    unfold Sh.f2o
    simp only [GMb, GMc, hf, hws]
  ·rw [if_neg hlv, Q8 fuel_pos]
   have hf : ((0 : Int) < 4) := by decide
   unfold Sh.f2o
   simp only [GMb, GMc, Ah, Aj, As, Nat.zero_add, Nat.add_zero, Nat.mul_one, Bc, hf, DG e1, Av hi, hlv, hws]
 ·unfold Sh.f3n
  rw [List.take_of_length_le (Nat.le_refl _)]
  simp only [GMb, GMc, Aj, Nat.zero_add, DG e1, A2, Int.lt_irrefl, BJ, OE]
theorem maxK_st {m : Int} {x : Nd} (hm : St m) (hx : ∀ k, k < 4 → St (x.kid k)) : ∀ k, k ≤ 4 → St (maxK m x k)
 | 0, _ => hm
 | k + 1, h => by
  have h1 := maxK_st hm hx k (by omega)
  have h2 := hx k (by omega)
  obtain ⟨a1, a2⟩ := h1
  obtain ⟨b1, b2⟩ := h2
  exact ⟨show (0 : Int) ≤ max (maxK m x k) (x.kid k) by omega, show max (maxK m x k) (x.kid k) ≤ (255 : Int) by omega⟩
theorem mostZ_st {L : List Nd} (hl : Az L = true) : St (JQ L) := by
 have key : ∀ (l : List Nd) (m : Int), St m → (∀ x ∈ l, x.lv = 1 → ∀ k, k < 4 → St (x.kid k)) → St (l.foldl (fun m x => if x.lv = 1 then maxK m x 4 else m) m) := by
  intro l
  induction l with
  | nil => intro m hm _; exact hm
  | cons a l ih =>
   intro m hm hx
   refine ih _ ?_ fun x h => hx x (by simp [h])
   dsimp only
   split
   ·rename_i h; exact maxK_st hm (hx a (by simp) h) 4 (Nat.le_refl _)
   ·exact hm
 refine key L 0 ⟨Int.le_refl _, by decide⟩ fun x hx hlv k hk => ?_
 obtain ⟨i, hi, rfl⟩ := List.getElem_of_mem hx
 have := (A0 hl hi).2.2 k hk
 exact ⟨this.1, this.2.1 hlv⟩
theorem q08_mostZ {L : List Nd} (H : Ab) (hL : L.length < 1152921504606846976) (hl : Az L = true) : Sh.f13 (J1 L) H = some (.ret (.int .u8 (JQ L)), H) := by
 have := mostZ_st hl
 rw [q08_most L H hL, wrap_u8 this.1 (by have := this.2; omega)]
end Go.Gm
namespace Go.Gm
theorem q05_nodes (A B : List Nd) (t t' : Tok) (H : Ab) (hA : A.length < 1000000000000) : Sh.f2g (.sl (enL cNd A) t) (.sl (enL cNd B) t') H = some (.ret (.bool (decide (A = B))), H) := by
 unfold Sh.f2g
 simp only [GMb, GMc, A2]
 by_cases hl : A.length = B.length
 ·have hd : decide ((A.length : Int) = (B.length : Int)) = true := decide_eq_true (by omega)
  simp only [GMb, GMc, hd]
  have key := Bl (G := fun rec1 vs H1 => Sh.f4t H rec1 (ag vs 0) (ag vs 1) (ag vs 2) H1) (σ := Nat) (fun i => i ≤ A.length)
   (fun i => [.sl (enL cNd A) t, .sl (enL cNd B) t', .int .i64 (i : Int)]) (fun _ => H) (fun i => A.length - i) (fun i => some (.ret (.bool (decide (A.drop i = B.drop i))), H)) (fun i rec hi hrec => ?_) 0 (Nat.zero_le _) (by omega)
  ·simpa using key
  ·unfold Sh.f4t
   by_cases h : i < A.length
   ·have h' : i < B.length := by omega
    have hlt : (i : Int) < (A.length : Int) := by omega
    have hw := Au (show i < 9223372036854775807 by omega)
    have := hrec (i + 1) h (by omega)
    rw [List.drop_eq_getElem_cons h, List.drop_eq_getElem_cons h']
    simp only [GMb, GMc, Aw, A2, hlt, Av h, Av h', Fa, neq_nd, hw]
    by_cases he : A[i] = B[i]
    ·simp only [he, GMb, GMc, List.cons.injEq, true_and]
     exact this
    ·simp only [he, GMb, GMc, List.cons.injEq, false_and]
   ·have hlt : ¬ (i : Int) < (A.length : Int) := by omega
    rw [List.drop_eq_nil_of_le (by omega), List.drop_eq_nil_of_le (by omega)]
    simp only [GMb, GMc, Aw, A2, hlt]
 ·have hd : decide ((A.length : Int) = (B.length : Int)) = false := decide_eq_false (by omega)
  have hne : decide (A = B) = false := decide_eq_false fun h => hl (by rw [h])
  simp only [GMb, GMc, hd, hne]
theorem q05_same (A B : List Nd) (H : Ab) (hA : A.length < 1000000000000) : Sh.fo (.agg [.sl (enL cNd A) .no]) (.agg [.sl (enL cNd B) .no]) H = some (.ret (.bool (decide (A = B))), H) := by
 unfold Sh.fo
 simp only [GMb, GMc, HPa, HPc, HPd, HPe, HPz, Nat.reduceAdd, Nat.reduceLT, q05_nodes A B .no .no _ hA]
end Go.Gm
namespace Go.Gm
def Lx (H : Ab) (p : Nat) (b : List UInt8) (a : Nat) (r : List Aa) : Prop := H[p]? = some (.cel 0 (.str b :: .int .i64 (a : Int) :: r))
theorem Qa {H : Ab} {p a : Nat} {b : List UInt8} {r : List Aa} (h : Lx H p b a r) : Ad false 1 (.ptr p 0 0) H = some (.str b) := by
 simp only [Ad, AT h, Option.bind]; rfl
theorem De {H : Ab} {p a : Nat} {b : List UInt8} {r : List Aa} (h : Lx H p b a r) : Ad false 1 (.ptr p 0 1) H = some (.int .i64 (a : Int)) := by
 simp only [Ad, AT h, Option.bind]; rfl
theorem G1 {H : Ab} {p a : Nat} {b : List UInt8} {r : List Aa} (h : Lx H p b a r) : Sh.f2 (.ptr p 0 0) H = some (.ret (.bool (decide (a = b.length))), H) := by
 unfold Sh.f2
 simp only [GMb, GMc, Ae, Aj, Nat.zero_add, Qa h, De h]
 by_cases e : a = b.length
 ·have e' : (a : Int) = (b.length : Int) := by omega
  simp [e, e']
 ·have e' : ¬ (a : Int) = (b.length : Int) := by omega
  simp [e, e']
def Pz (e : Int) (s : List UInt8) : Aa := .iface E8 (.agg [.int .i64 e, .str s])
theorem Ku {H : Ab} {p a : Nat} {b : List UInt8} {r : List Aa} (h : Lx H p b a r) (s : List UInt8) : Sh.f1 (.ptr p 0 0) (.str s) H = some (.pan (if a = b.length then Pz 3 s else Pz 2 []), H) := by
 unfold Sh.f1
 simp only [GMb, GMc, G1 h]
 by_cases e : a = b.length
 ·simp only [e, GMb, GMc]
  rfl
 ·simp only [e, GMb, GMc]
  rfl
theorem lx_limit {H : Ab} (x : Aa) : Sh.f7 x H = some (.pan (Pz 4 []), H) := rfl
theorem QG (l : List UInt8) (c : UInt8) : (0 ≤ Lib.indexByte l c) ↔ c ∈ l := by
 induction l with
 | nil => simp [Lib.indexByte]
 | cons b l ih =>
  have hge := Lib.indexByte_ge l c
  unfold Lib.indexByte
  by_cases h : b = c
  ·simp [h]
  ·have h' : ¬ c = b := fun e => h e.symm
   by_cases h2 : Lib.indexByte l c = -1
   ·have : ¬ c ∈ l := fun hm => by have := ih.2 hm; omega
    simp [h, h', h2, this]
   ·have h3 : 0 ≤ Lib.indexByte l c := by omega
    have h4 := ih.1 h3
    simp [h, h2, h4]
    omega
def A7 (b : List UInt8) (a : Nat) (some : List UInt8) : Bool := match b[a]? with
 | none => false
 | Option.some c => some.contains c
theorem BL {H : Ab} {p a : Nat} {b : List UInt8} {r : List Aa} (h : Lx H p b a r) (ha : a ≤ b.length) (s : List UInt8) : Sh.f0 (.ptr p 0 0) (.str s) H = some (.ret (.bool (A7 b a s)), H) := by
 unfold Sh.f0 A7
 simp only [GMb, GMc, G1 h]
 by_cases e : a = b.length
 ·simp only [e, GMb, GMc]
  rw [List.getElem?_eq_none (Nat.le_refl _)]
 ·have hlt : a < b.length := by omega
  rw [List.getElem?_eq_getElem hlt]
  have hi : Sh.f18 (.str s) (.int .u8 (b[a].toNat : Int)) H = some (.ret (.int .i64 (Lib.indexByte s b[a])), H) := by
   unfold Sh.f18; simp
  simp only [e, GMb, GMc, Ae, Aj, Nat.zero_add, Qa h, De h, FV hlt, hi]
  by_cases hm : b[a] ∈ s
  ·have := (QG s b[a]).2 hm
   simp [hm, this]
  ·have : ¬ 0 ≤ Lib.indexByte s b[a] := fun hc => hm ((QG s b[a]).1 hc)
   simp [hm, this]
theorem lx_step {H : Ab} {p a : Nat} {b : List UInt8} {r : List Aa} (h : Lx H p b a r) (n : Int) : Ak 1 (.ptr p 0 1) (.int .i64 n) H = some (H.set p (.cel 0 (.str b :: .int .i64 n :: r))) := by
 simp only [Ak, AT h, Option.bind, Aa.acells]
 simp [C8 h, D4]
theorem lx_set {H : Ab} {p a a' : Nat} {b : List UInt8} {r : List Aa} (h : Lx H p b a r) : Lx (H.set p (.cel 0 (.str b :: .int .i64 (a' : Int) :: r))) p b a' r := by
 have : p < H.length := by
  rcases Nat.lt_or_ge p H.length with h' | h'
  ·exact h'
  ·unfold Lx at h; rw [List.getElem?_eq_none h'] at h; cases h
 unfold Lx; simp [this]
end Go.Gm
namespace Go.Gm
def AG (H : Ab) (p : Nat) (b : List UInt8) (r : List Aa) (a : Nat) : Ab := H.set p (.cel 0 (.str b :: .int .i64 (a : Int) :: r))
theorem B6 {H : Ab} {p a : Nat} {b : List UInt8} {r : List Aa} (h : Lx H p b a r) : AG H p b r a = H := by
 unfold AG
 apply List.ext_getElem?
 intro i
 by_cases e : p = i
 ·subst e
  have : p < H.length := by
   rcases Nat.lt_or_ge p H.length with h' | h'
   ·exact h'
   ·unfold Lx at h; rw [List.getElem?_eq_none h'] at h; cases h
  rw [List.getElem?_set_self this]; exact h.symm
 ·rw [List.getElem?_set_ne e]
theorem Cw {H : Ab} {p a a' : Nat} {b : List UInt8} {r : List Aa} (h : Lx H p b a r) : Lx (AG H p b r a') p b a' r := lx_set h
theorem Kq (H : Ab) (p a a' : Nat) (b : List UInt8) (r r' : List Aa) : AG (AG H p b r a) p b r' a' = AG H p b r' a' := by unfold AG; rw [List.set_set]
theorem Fv (H : Ab) (p a : Nat) (b : List UInt8) (r : List Aa) : (AG H p b r a).length = H.length := by unfold AG; simp
theorem E9 {H : Ab} {p a a' : Nat} {b : List UInt8} {r : List Aa} (h : Lx H p b a r) (n : Nat) : Ak 1 (.ptr p 0 1) (.int .i64 (n : Int)) (AG H p b r a') = some (AG H p b r n) := by
 rw [lx_step (Cw h)]
 exact congrArg some (Kq H p a' n b r r)
def FL (b : List UInt8) (a : Nat) : Nat := a + ((b.drop a).takeWhile fun c => !([13, 10] : List UInt8).contains c).length
theorem anyN_step {b : List UInt8} {a : Nat} (h : a < b.length) : FL b a = if A7 b a [13, 10] then a else FL b (a + 1) := by
 unfold FL A7
 rw [List.getElem?_eq_getElem h, List.drop_eq_getElem_cons h, List.takeWhile_cons]
 cases hc : ([13, 10] : List UInt8).contains b[a] with
 | true => simp only [hc, Bool.not_true, if_true, if_false, Bool.false_eq_true, List.length_nil, Nat.add_zero]
 | false => simp only [hc, Bool.not_false, if_true, if_false, Bool.false_eq_true, List.length_cons]; omega
theorem anyN_end {b : List UInt8} : FL b b.length = b.length := by simp [FL]
theorem lx_any {H : Ab} {p a : Nat} {b : List UInt8} {r : List Aa} (h : Lx H p b a r) (ha : a ≤ b.length) (hb : b.length < 1152921504606846976) :
  Sh.fq (.ptr p 0 0) H = some (.ret (.tup []), AG H p b r (FL b a)) := by
 unfold Sh.fq
 have key := Bl (G := fun rec1 vs H1 => Sh.f41 H rec1 (ag vs 0) H1) (σ := Nat) (fun i => i ≤ b.length) (fun _ => [.ptr p 0 0]) (fun i => AG H p b r i) (fun i => b.length - i)
  (fun i => some (.ret (.tup []), AG H p b r (FL b i))) (fun i rec hi hrec => ?_) a ha (by omega)
 ·rw [B6 h] at key; exact key
 ·unfold Sh.f41
  have hx := Cw (a' := i) h
  simp only [GMb, GMc, G1 hx]
  by_cases e : i = b.length
  ·simp only [e, GMb, GMc, anyN_end]
  ·have hlt : i < b.length := by omega
   simp only [e, GMb, GMc, BL hx hi]
   rw [anyN_step hlt]
   cases hc : A7 b i [13, 10] with
   | true => simp only [GMb, GMc, Bool.not_true]
   | false =>
    simp only [GMb, GMc, Bool.not_false, Ae, Aj, Nat.zero_add, De hx, Au (show i < 9223372036854775807 by omega), E9 h]
    exact hrec (i + 1) (by omega) (by omega)
def Nr (b : List UInt8) (a : Nat) (s : List UInt8) : Aa := if a = b.length then Pz 3 s else Pz 2 []
def crN (b : List UInt8) (a : Nat) : Nat := if A7 b a [13] then a + 1 else a
theorem Cf {b s : List UInt8} {a : Nat} (h : A7 b a s = true) : a < b.length := by
 rcases Nat.lt_or_ge a b.length with h' | h'
 ·exact h'
 ·unfold A7 at h; rw [List.getElem?_eq_none h'] at h; cases h
theorem crN_le {b : List UInt8} {a : Nat} (ha : a ≤ b.length) : crN b a ≤ b.length := by
 unfold crN
 cases hs : A7 b a [13] with
 | true => exact Cf hs
 | false => exact ha
def endO (H : Ab) (p : Nat) (b : List UInt8) (r : List Aa) (a : Nat) (rest : List UInt8) : Out :=
 if a = b.length then some (.ret (.tup []), H)
 else if A7 b (crN b a) [10] then some (.ret (.tup []), AG H p b r (crN b a + 1))
 else some (.pan (Nr b (crN b a) (10 :: rest)), AG H p b r (crN b a))
theorem lx_end {H : Ab} {p a : Nat} {b : List UInt8} {r : List Aa} (h : Lx H p b a r) (ha : a ≤ b.length) (hb : b.length < 1152921504606846976) (rest : List UInt8) (hr : rest.length ≤ 1000000) :
  Sh.ff (.ptr p 0 0) (.str rest) H = endO H p b r a rest := by
 unfold Sh.ff endO
 simp only [GMb, GMc, G1 h]
 by_cases e : a = b.length
 ·simp only [e, GMb, GMc]
 ·have key : ∀ c, c ≤ b.length → Sh.f42 H (.ptr p 0 0) (.str rest) (AG H p b r c) = if A7 b c [10] then some (.ret (.tup []), AG H p b r (c + 1)) else some (.pan (Nr b c (10 :: rest)), AG H p b r c) := by
   intro c hc
   have hx := Cw (a' := c) h
   unfold Sh.f42
   simp only [GMb, GMc, BL hx hc]
   cases hs : A7 b c [10] with
   | true =>
    unfold Sh.f4v
    simp only [GMb, GMc, Bool.not_true, Ae, Aj, Nat.zero_add, De hx, Au (show c < 9223372036854775807 by omega), E9 h]
   | false =>
    have hcat : Af .none .add (.str [10]) (.str rest) = some (.str (10 :: rest)) := Bm (by simp only [List.length_cons, List.length_nil]; omega)
    simp only [GMb, GMc, Bool.not_false, hcat, Ku hx]
    rfl
  simp only [e, GMb, GMc, BL h ha, AN]
  unfold crN
  cases hs : A7 b a [13] with
  | true =>
   have hlt : a < b.length := by omega
   have hm := E9 (a' := a) h (a + 1)
   rw [B6 h] at hm
   simp only [GMb, GMc, Ae, Aj, Nat.zero_add, De h, Au (show a < 9223372036854775807 by omega), hm]
   exact key (a + 1) (by omega)
  | false =>
   have := key a ha
   rw [B6 h] at this
   simp only [GMb, GMc]
   rw [B6 h]
   exact this
end Go.Gm
namespace Go.Gm
def cpN : List UInt8 → List UInt8 → Nat
 | a :: l, b :: m => if a = b then cpN l m + 1 else 0
 | _, _ => 0
theorem cpN_le : ∀ a b : List UInt8, cpN a b ≤ a.length ∧ cpN a b ≤ b.length
 | [], _ => ⟨Nat.zero_le _, Nat.zero_le _⟩
 | _ :: _, [] => ⟨Nat.zero_le _, Nat.zero_le _⟩
 | a :: l, b :: m => by
  have := cpN_le l m
  unfold cpN
  by_cases h : a = b
  ·rw [if_pos h]; simp only [List.length_cons]; omega
  ·rw [if_neg h]; exact ⟨Nat.zero_le _, Nat.zero_le _⟩
theorem cpN_get : ∀ (a b : List UInt8) (i : Nat), i < cpN a b → a[i]? = b[i]?
 | [], _, i, h => by simp [cpN] at h
 | _ :: _, [], i, h => by simp [cpN] at h
 | a :: l, b :: m, i, h => by
  unfold cpN at h
  by_cases e : a = b
  ·rw [if_pos e] at h
   cases i with
   | zero => simp [e]
   | succ i => simpa using cpN_get l m i (by omega)
  ·rw [if_neg e] at h; omega
theorem cpN_stop : ∀ (a b : List UInt8), cpN a b < a.length → cpN a b < b.length → a[cpN a b]? ≠ b[cpN a b]?
 | [], _, h, _ => by simp [cpN] at h
 | _ :: _, [], _, h => by simp [cpN] at h
 | a :: l, b :: m, h, h2 => by
  by_cases e : a = b
  ·have ec : cpN (a :: l) (b :: m) = cpN l m + 1 := by rw [cpN, if_pos e]
   rw [ec] at h h2 ⊢
   simpa using cpN_stop l m (by simpa using h) (by simpa using h2)
  ·have ec : cpN (a :: l) (b :: m) = 0 := by rw [cpN, if_neg e]
   rw [ec]; simpa using e
theorem q_common (a b : List UInt8) (H : Ab) (ha : a.length < 1152921504606846976) : Sh.f1d (.str a) (.str b) H = some (.ret (.int .i64 (cpN a b : Int)), H) := by
 unfold Sh.f1d
 have hm : (min (a.length : Int) (b.length : Int)) = ((min a.length b.length : Nat) : Int) := by omega
 have hle := cpN_le a b
 have l1 : Bx (.str a) = some (.int .i64 (a.length : Int)) := rfl
 have l2 : Bx (.str b) = some (.int .i64 (b.length : Int)) := rfl
 simp only [GMb, GMc, l1, l2, min_int, hm]
 have key := Bl (G := fun rec1 vs H1 => Sh.f40 H rec1 (ag vs 0) (ag vs 1) (ag vs 2) (ag vs 3) (ag vs 4) H1) (σ := Nat) (fun i => i ≤ cpN a b)
  (fun i => [.str a, .str b, .int .i64 ((min a.length b.length : Nat) : Int), .int .i64 ((min a.length b.length : Nat) : Int), .int .i64 (i : Int)]) (fun _ => H) (fun i => cpN a b - i)
  (fun _ => some (.ret (.int .i64 (cpN a b : Int)), H)) (fun i rec hi hrec => ?_) 0 (Nat.zero_le _) (by omega)
 ·exact key
 ·unfold Sh.f40
  by_cases hlt : i < min a.length b.length
  ·have hlt' : (i : Int) < ((min a.length b.length : Nat) : Int) := by omega
   have h1 : i < a.length := by omega
   have h2 : i < b.length := by omega
   simp only [GMb, GMc, Aw, hlt', FV h1, FV h2]
   by_cases e : i = cpN a b
   ·have hne := cpN_stop a b (by omega) (by omega)
    rw [← e, List.getElem?_eq_getElem h1, List.getElem?_eq_getElem h2] at hne
    have hn : ¬ ((a[i].toNat : Int) = (b[i].toNat : Int)) := fun hc => hne (congrArg some (UInt8.toNat_inj.1 (by omega)))
    simp only [hn, GMb, GMc, not_false_eq_true]
    rw [e]
   ·have hg := cpN_get a b i (by omega)
    rw [List.getElem?_eq_getElem h1, List.getElem?_eq_getElem h2] at hg
    have hg' := Option.some.inj hg
    simp only [hg', GMb, GMc, not_true_eq_false, Au (show i < 9223372036854775807 by omega)]
    exact hrec (i + 1) (by omega) (by omega)
  ·have hlt' : ¬ (i : Int) < ((min a.length b.length : Nat) : Int) := by omega
   simp only [GMb, GMc, Aw, hlt']
   have : min a.length b.length = cpN a b := by omega
   rw [this]
def mustO (H : Ab) (p : Nat) (b : List UInt8) (r : List Aa) (a : Nat) (s rest : List UInt8) : Out :=
 if cpN (b.drop a) s < s.length then some (.pan (Nr b (a + cpN (b.drop a) s) (s.drop (cpN (b.drop a) s) ++ rest)), AG H p b r (a + cpN (b.drop a) s))
 else some (.ret (.tup []), AG H p b r (a + cpN (b.drop a) s))
theorem lx_must {H : Ab} {p a : Nat} {b : List UInt8} {r : List Aa} (h : Lx H p b a r) (ha : a ≤ b.length) (hb : b.length < 1152921504606846976) (s rest : List UInt8) (hs : s.length ≤ 1000000) (hr : rest.length ≤ 1000000) :
  Sh.f4 (.ptr p 0 0) (.str s) (.str rest) H = mustO H p b r a s rest := by
 unfold Sh.f4 mustO
 have hle := cpN_le (b.drop a) s
 have hd : (b.drop a).length = b.length - a := List.length_drop
 have hq := q_common (b.drop a) s H (by omega)
 have l2 : Bx (.str s) = some (.int .i64 (s.length : Int)) := rfl
 generalize cpN (b.drop a) s = n at hq hle ⊢
 have hw : IntKind.i64.wrap ((a : Int) + (n : Int)) = ((a + n : Nat) : Int) := by rw [Ay] <;> omega
 have hm := E9 (a' := a) h (a + n)
 rw [B6 h] at hm
 have hx := Cw (a' := a + n) h
 simp only [GMb, GMc, Ae, Aj, Nat.zero_add, Qa h, De h, CN ha, hq, hw, hm, l2]
 by_cases hc : n < s.length
 ·have hc' : (n : Int) < (s.length : Int) := by omega
  have hcat : Af .none .add (.str (s.drop n)) (.str rest) = some (.str (s.drop n ++ rest)) := Bm (by rw [List.length_drop]; omega)
  simp only [hc', GMb, GMc, CN hle.2, hcat, Ku hx, if_pos hc]
  rfl
 ·have hc' : ¬ (n : Int) < (s.length : Int) := by omega
  simp only [hc', GMb, GMc, if_neg hc]
end Go.Gm
namespace Go.Gm
theorem q_sign (c : UInt8) (H : Ab) : Sh.f1k (.int .u8 (c.toNat : Int)) H = some (.ret (.bool (L8 c)), H) := by
 unfold Sh.f1k L8
 by_cases h : (c.toNat : Int) > 32
 ·have : 33 ≤ c.toNat := by omega
  simp [h, this]; omega
 ·have : ¬ 33 ≤ c.toNat := by omega
  simp [h, this]
def onB (b : List UInt8) (f a : Nat) : Bool := match b[a]? with
 | none => false
 | some c => decide (a - f < 40) && L8 c
def FN (b : List UInt8) (f : Nat) : Nat → Nat → Nat
 | 0, a => a
 | n + 1, a => if onB b f a then FN b f n (a + 1) else a
def ruleO (H : Ab) (p : Nat) (b : List UInt8) (r : List Aa) (f e : Nat) (rest : List UInt8) : Out :=
 if e = f then some (.pan (Nr b e (97 :: rest)), AG H p b r e) else some (.ret (.str ((b.take e).drop f)), AG H p b r e)
theorem lx_rule_end {H : Ab} {p a f : Nat} {b : List UInt8} {r : List Aa} (h : Lx H p b f r) (hf : f ≤ a) (ha : a ≤ b.length) (rest : List UInt8) (hr : rest.length ≤ 1000000) :
  (AN (fun j2 =>
 (Ae (.ptr p 0 0)).bind fun x51 =>
 (Ac 1 x51).bind fun x52 =>
 (Ad false 1 x52 (AG H p b r a)).bind fun x53 =>
 (Af .none .eql x53 (.int .i64 (f : Int))).bind fun x54 =>
 Al x54 (
 (Af .none .add (.str [97]) (.str rest)).bind fun x55 =>
 bK H (Sh.f1 (.ptr p 0 0) x55 (AG H p b r a)) fun x56 H57 =>
 j2 [.ptr p 0 0, .int .i64 (f : Int)] H57) (
 j2 [.ptr p 0 0, .int .i64 (f : Int)] (AG H p b r a))) (fun vs H1 => Sh.f45 H (ag vs 0) (ag vs 1) H1)) = ruleO H p b r f a rest := by
 have hx := Cw (a' := a) h
 unfold ruleO
 have hcat : Af .none .add (.str [97]) (.str rest) = some (.str (97 :: rest)) := Bm (by simp only [List.length_cons, List.length_nil]; omega)
 simp only [GMb, GMc, Ae, Aj, Nat.zero_add, De hx]
 by_cases e : a = f
 ·simp only [e, GMb, GMc, hcat, if_pos]
  subst e
  simp only [Ku hx]
  rfl
 ·have e' : ¬ (a : Int) = (f : Int) := by omega
  simp only [e', GMb, GMc, if_neg e]
  unfold Sh.f45
  simp only [GMb, GMc, Ae, Aj, Nat.zero_add, De hx, Qa hx, Qs hf ha]
theorem Mz {b : List UInt8} {f a : Nat} (h : onB b f a = false) : ∀ n, FN b f n a = a
 | 0 => rfl
 | n + 1 => by rw [FN, h]; rfl
theorem ruleN_on {b : List UInt8} {f a : Nat} (h : onB b f a = true) (hf : f ≤ a) : FN b f (40 - (a - f)) a = FN b f (40 - (a + 1 - f)) (a + 1) := by
 have : a - f < 40 := by
  unfold onB at h
  split at h
  ·cases h
  ·simp at h; exact h.1
 have e : 40 - (a - f) = (40 - (a + 1 - f)) + 1 := by omega
 rw [e, FN, h, if_pos rfl]
theorem onB_lt {b : List UInt8} {f a : Nat} (h : onB b f a = true) : a < b.length := by
 rcases Nat.lt_or_ge a b.length with h' | h'
 ·exact h'
 ·unfold onB at h; rw [List.getElem?_eq_none h'] at h; cases h
theorem lx_rule {H : Ab} {p f : Nat} {b : List UInt8} {r : List Aa} (h : Lx H p b f r) (hf : f ≤ b.length) (hb : b.length < 1152921504606846976) (rest : List UInt8) (hr : rest.length ≤ 1000000) :
  Sh.fy (.ptr p 0 0) (.str rest) H = ruleO H p b r f (FN b f 40 f) rest := by
 unfold Sh.fy
 simp only [GMb, GMc, Ae, Aj, Nat.zero_add, De h]
 have key := Bl (G := fun rec1 vs H1 => Sh.f46 H rec1 (ag vs 0) (ag vs 1) (ag vs 2) H1) (σ := Nat) (fun i => f ≤ i ∧ i ≤ b.length) (fun _ => [.ptr p 0 0, .str rest, .int .i64 (f : Int)]) (fun i => AG H p b r i) (fun i => b.length - i)
  (fun i => ruleO H p b r f (FN b f (40 - (i - f)) i) rest) (fun i rec hi hrec => ?_) f ⟨Nat.le_refl _, hf⟩ (by omega)
 ·rw [B6 h, Nat.sub_self, Nat.sub_zero] at key; exact key
 ·unfold Sh.f46
  obtain ⟨h1, h2⟩ := hi
  have hx := Cw (a' := i) h
  have hend := lx_rule_end h h1 h2 rest hr
  simp only [GMb, GMc, G1 hx]
  by_cases e : i = b.length
  ·have ho : onB b f i = false := by unfold onB; rw [e, List.getElem?_eq_none (Nat.le_refl _)]
   rw [Mz ho]
   simp only [e, GMb, GMc] at hend ⊢
   exact hend
  ·have hlt : i < b.length := by omega
   have hw : IntKind.i64.wrap ((i : Int) - (f : Int)) = ((i - f : Nat) : Int) := by rw [Ay] <;> omega
   simp only [e, GMb, GMc, Ae, Aj, Nat.zero_add, De hx, Qa hx, hw]
   by_cases h40 : i - f < 40
   ·have h40' : ((i - f : Nat) : Int) < 40 := by omega
    simp only [h40', GMb, GMc, Aj, Nat.zero_add, De hx, Qa hx, FV hlt, q_sign]
    cases hs : L8 b[i] with
    | true =>
     have ho : onB b f i = true := by unfold onB; rw [List.getElem?_eq_getElem hlt]; simp [h40, hs]
     rw [ruleN_on ho h1]
     simp only [GMb, GMc, De hx, Au (show i < 9223372036854775807 by omega), E9 h]
     exact hrec (i + 1) ⟨by omega, by omega⟩ (by omega)
    | false =>
     have ho : onB b f i = false := by unfold onB; rw [List.getElem?_eq_getElem hlt]; simp [hs]
     rw [Mz ho]
     simpa only [GMb, GMc, Ae, Aj, Nat.zero_add, De hx] using hend
   ·have h40' : ¬ ((i - f : Nat) : Int) < 40 := by omega
    have ho : onB b f i = false := by unfold onB; rw [List.getElem?_eq_getElem hlt]; simp [h40]
    rw [Mz ho]
    simpa only [h40', GMb, GMc, Ae, Aj, Nat.zero_add, De hx] using hend
end Go.Gm
namespace Go.Gm
structure NE (p : Nat) (H H' : Ab) : Prop where
 len : H.length ≤ H'.length
 old : ∀ i, i < H.length → i ≠ p → H'[i]? = H[i]?
theorem NE.refl (p : Nat) (H : Ab) : NE p H H := ⟨Nat.le_refl _, fun _ _ _ => rfl⟩
theorem NE.trans {p : Nat} {H H1 H2 : Ab} (h : NE p H H1) (k : NE p H1 H2) : NE p H H2 :=
 ⟨Nat.le_trans h.len k.len, fun i hi hp => (k.old i (Nat.lt_of_lt_of_le hi h.len) hp).trans (h.old i hi hp)⟩
theorem NE.push (p : Nat) (H G : Ab) : NE p H (H ++ G) :=
 ⟨by simp, fun i hi hp => List.getElem?_append_left hi⟩
theorem Lx.push {H G : Ab} {p a : Nat} {b : List UInt8} {r : List Aa} (h : Lx H p b a r) : Lx (H ++ G) p b a r := by
 have : p < H.length := by
  rcases Nat.lt_or_ge p H.length with h' | h'
  ·exact h'
  ·unfold Lx at h; rw [List.getElem?_eq_none h'] at h; cases h
 unfold Lx
 rw [List.getElem?_append_left this]; exact h
theorem digs_mem (c : UInt8) : ([48, 49, 50, 51, 52, 53, 54, 55, 56, 57] : List UInt8).contains c = decide (48 ≤ c.toNat ∧ c.toNat ≤ 57) := by
 simp only [List.contains_eq_mem, List.mem_cons, List.not_mem_nil, or_false, decide_eq_decide, ← UInt8.toNat_inj]
 simp only [UInt8.reduceToNat]
 omega
end Go.Gm
namespace Go.Gm
theorem Km {a n : Nat} (h : a + n < 9223372036854775807) : IntKind.i64.wrap ((a : Int) + (n : Int)) = ((a + n : Nat) : Int) := by rw [Ay] <;> omega
def Ho (b : List UInt8) (a : Nat) (s : List UInt8) : Nat := a + cpN (b.drop a) s
theorem Hn {b : List UInt8} {a : Nat} (ha : a ≤ b.length) (s : List UInt8) : Ho b a s ≤ b.length := by
 have := (cpN_le (b.drop a) s).1
 rw [List.length_drop] at this
 unfold Ho; omega
end Go.Gm
namespace Go.Gm
def eolN (b : List UInt8) (a : Nat) : Nat := if a = b.length then a else if A7 b (crN b a) [10] then crN b a + 1 else crN b a
theorem eolN_le {b : List UInt8} {a : Nat} (ha : a ≤ b.length) : eolN b a ≤ b.length := by
 unfold eolN
 split
 ·exact ha
 ·split
  ·rename_i h; exact Cf h
  ·exact crN_le ha
theorem ruleN_le {b : List UInt8} {f : Nat} : ∀ (n a : Nat), a ≤ b.length → a ≤ FN b f n a ∧ FN b f n a ≤ b.length
 | 0, a, h => ⟨Nat.le_refl _, h⟩
 | n + 1, a, h => by
  rw [FN]
  cases ho : onB b f a with
  | true => have := ruleN_le (b := b) (f := f) n (a + 1) (onB_lt ho); simp only [if_true]; omega
  | false => simp only [Bool.false_eq_true, if_false]; omega
end Go.Gm
namespace Go.Gm
def Row1 (v : Aa) (H : Ab) (l : List Nat) : Prop := A8 v = some (.int .i64 (l.length : Int)) ∧ ∀ (i : Nat) (h : i < l.length), ∃ p, A3 1 v (.int .i64 (i : Int)) = some p ∧ ∀ G, Ad false 1 p (H ++ G) = some (.int .u32 (l[i] : Int))
theorem row_ms {l : List Nat} {H : Ab} {id : Nat} (hg : H[id]? = some (.cel 0 (flat cU l))) : Row1 (.ms id 0 0 l.length l.length 1 true) H l := by
 refine ⟨rfl, fun i h => ?_⟩
 have hidx := DZ (sz := 1) (id := id) (n := l.length) (K := .i64) (g := 0) (off := 0) (cap := l.length) (ex := true) (i := i) h
 simp only [Nat.zero_add, Nat.mul_one] at hidx
 exact ⟨_, hidx, fun G => load_left (Hm (f := cU) (AT hg) h)⟩
theorem q01_bitsR {v : Aa} {H : Ab} {l : List Nat} (hv : Row1 v H l) (hl : l.length ≤ 2199023255552) (hx : Lim l) : Sh.fw v H = some (.ret (.sl (enL cB (Ff (Ba l))) .no), H) := by
 unfold Sh.fw
 refine BM l.length (fun i => [v, EP cB H (Ba (l.take i)), .int .i64 (i : Int)]) (fun i => DU cB DN 1 H (Ba (l.take i))) _ (by omega) (fun rec i hi => ?_) (fun rec => ?_)
 ·have hi' : (i : Int) < (l.length : Int) := by omega
  have hxi : l[i] < 4294967296 := hx _ (List.getElem_mem hi)
  have htk : Ba (l.take (i + 1)) = Ba (l.take i) ++ Ca 32 l[i] := by
   rw [List.take_succ_eq_append_getElem hi, Ba, List.flatMap_append]; simp [Ba]
  have hlen : (Ba (l.take i)).length ≤ 32 * 2199023255552 := by rw [Cr]; simp; omega
  obtain ⟨p, hp1, hp2⟩ := hv.2 i hi
  obtain ⟨G, hG⟩ := LI (f := cB) (ty := DN) (sz := 1) H (Ba (l.take i))
  have hld : Ad false 1 p (DU cB DN 1 H (Ba (l.take i))) = some (.int .u32 (l[i] : Int)) := by rw [hG]; exact hp2 G
  unfold Sh.f2q
  simp only [A9, CG, Da, hv.1, Bk, AM, hi', decide_true, AL, hp1, hld, htk]
  generalize Ba (l.take i) = o at hlen
  generalize l[i] = x at hxi
  refine Bl (σ := Nat × Nat × List Bool) (fun s => s.1 ≤ 32 ∧ s.2.1 < 4294967296 ∧ s.2.2.length ≤ o.length + s.1) (fun s => [v, EP cB H s.2.2, .int .i64 (i : Int), .int .u32 (s.2.1 : Int), .int .i64 (s.1 : Int)]) (fun s => DU cB DN 1 H s.2.2) (fun s => 32 - s.1)
   (fun s => rec [v, EP cB H (s.2.2 ++ Ca (32 - s.1) s.2.1), .int .i64 ((i + 1 : Nat) : Int)] (DU cB DN 1 H (s.2.2 ++ Ca (32 - s.1) s.2.1))) (fun s rec2 hs hrec => ?_) (0, x, o) ⟨by dsimp only; omega, hxi, by dsimp only; omega⟩ (by dsimp only; omega)
  obtain ⟨k, y, p⟩ := s
  obtain ⟨hk, hy, hp⟩ := hs
  simp only at hk hy hp hrec ⊢
  unfold Sh.f4k
  by_cases h : k < 32
  ·have h' : (k : Int) < 32 := by omega
   have e1 : (y : Int).tmod 2 = ((y % 2 : Nat) : Int) := rfl
   have e2 : IntKind.u32.wrap ((y : Int).tdiv 2) = ((y / 2 : Nat) : Int) := by rw [show (y : Int).tdiv 2 = ((y / 2 : Nat) : Int) from rfl, CM] <;> omega
   have e3 : decide (((y % 2 : Nat) : Int) = 1) = (y % 2 == 1) := by rw [Bool.eq_iff_iff]; simp only [beq_iff_eq, decide_eq_true_eq]; omega
   have e4 : IntKind.i64.wrap ((k : Int) + 1) = ((k + 1 : Nat) : Int) := by rw [Ay] <;> omega
   have := hrec (k + 1, y / 2, p ++ [y % 2 == 1]) ⟨h, by dsimp only; omega, by simp; omega⟩ (by dsimp only; omega)
   simp only [A9, CG, Da, FC, Gk, AM, h', decide_true, Bk, AL, HR (show (2 : Int) ≠ 0 by decide), K7 (show (2 : Int) ≠ 0 by decide), e1, e2, Dj, Ej, e3, build_B]
   rw [HT (by simp) (by simp; omega) (by simp; omega)]
   simp only [Cx, Dn, B4, Bk, e4, this]
   rw [show 32 - k = (32 - (k + 1)) + 1 from by omega, Ca]; simp
  ·have : k = 32 := by omega
   subst this
   have e4 : IntKind.i64.wrap ((i : Int) + 1) = ((i + 1 : Nat) : Int) := by rw [Ay] <;> omega
   simp [Ca, e4]
 ·unfold Sh.f2q
  obtain ⟨G, hG⟩ := LI (f := cB) (ty := DN) (sz := 1) H (Ba l)
  rw [List.take_of_length_le (Nat.le_refl _)]
  simp only [A9, CG, Da, Ha, hG, hv.1, Bk, AM, Int.lt_irrefl, decide_false, AH, q01_cut (Ba l) _ _ (by rw [Cr]; omega), Dn, D0, K3, Option.map_some]
theorem q01_normR {v : Aa} {H : Ab} {l : List Nat} (hv : Row1 v H l) (hl : l.length ≤ 1099511627776) (hx : Lim l) : Sh.fc v H = some (.ret (.sl (enL cU (Cy (val l))) .no), H) := by
 have hc := cutL_le (Ba l)
 rw [Cr] at hc
 unfold Sh.fc
 rw [q01_bitsR hv (by omega) hx]
 simp only [ET]
 rw [q01_of _ _ _ (by omega)]
 simp only [ET, J0, QM, OY, val_bits l hx]
end Go.Gm
namespace Go.Gm
theorem Ov (a : Nat) (l : List Nat) : val (a :: l) = a + 4294967296 * val l := rfl
theorem div_step {m a v : Nat} (hm : 0 < m) : (a + 4294967296 * v) / m = (v % m * 4294967296 + a) / m + 4294967296 * (v / m) ∧ (a + 4294967296 * v) % m = (v % m * 4294967296 + a) % m := by
 have h := Nat.div_add_mod v m
 have e : a + 4294967296 * v = (v % m * 4294967296 + a) + m * (4294967296 * (v / m)) := by
  conv => lhs; rw [← h]
  rw [Nat.mul_add, Nat.mul_left_comm]
  omega
 rw [e, Nat.add_mul_div_left _ _ hm, Nat.add_mul_mod_self_left]
 exact ⟨rfl, rfl⟩
theorem quo_lt {m a r : Nat} (hr : r < m) (ha : a < 4294967296) : (r * 4294967296 + a) / m < 4294967296 := by
 rw [Nat.div_lt_iff_lt_mul (by omega)]
 have : (r + 1) * 4294967296 ≤ m * 4294967296 := Nat.mul_le_mul_right _ hr
 omega
theorem q01_div (l : List Nat) (tk : Tok) (m : Nat) (H : Ab) (hl : l.length ≤ 1099511627776) (hx : Lim l) (hm0 : 0 < m) (hm : m < 4294967296) :
  Sh.f29 (.sl (enL cU l) tk) (.int .u32 (m : Int)) H = some (.ret (.tup [.sl (enL cU (Cy (val l / m))) .no, .int .u32 ((val l % m : Nat) : Int)]), H) := by
 unfold Sh.f29
 have hm0' : ¬ (m : Int) = 0 := by omega
 have hmk := Fm (f := cU) (a := 0) (n := l.length) (bytes := 4) (H := H) (by omega) (by omega)
 simp only [show cU 0 = [Aa.int .u32 0] from rfl] at hmk
 have hcm : ∀ n : Int, AU .u64 (.int .u32 (m : Int)) = some (.int .u64 (m : Int)) := fun _ => by rw [BJ, C6 (by omega) (by omega)]
 simp only [GMb, GMc, hm0', A2, hmk]
 have hw0 : IntKind.i64.wrap ((l.length : Int) - 1) = (l.length : Int) - 1 := Ay (by omega) (by omega)
 rw [hw0]
 have key := Bl (G := fun rec1 vs H1 => Sh.f4o H rec1 (ag vs 0) (ag vs 1) (ag vs 2) (ag vs 3) (ag vs 4) H1) (σ := Nat × List Nat) (fun s => s.1 ≤ l.length ∧ s.2.length = l.length ∧ Lim s.2 ∧ val (s.2.drop s.1) = val (l.drop s.1) / m)
  (fun s => [.sl (enL cU l) tk, .int .u32 (m : Int), .ms H.length 0 0 l.length l.length 1 true, .int .u64 ((val (l.drop s.1) % m : Nat) : Int), .int .i64 ((s.1 : Int) - 1)]) (fun s => H ++ [.cel 0 (flat cU s.2)]) (fun s => s.1)
  (fun _ => some (.ret (.tup [.sl (enL cU (Cy (val l / m))) .no, .int .u32 ((val l % m : Nat) : Int)]), H)) (fun s rec hs hrec => ?_) (l.length, List.replicate l.length 0) ⟨Nat.le_refl _, by simp, fun x hx => by have := (List.mem_replicate.1 hx).2; omega, by simp [val]⟩ (by dsimp only; omega)
 ·simp only [List.drop_length, show val [] = 0 from rfl, Nat.zero_mod] at key
  exact key
 ·obtain ⟨k, O⟩ := s
  obtain ⟨h1, h2, h3, h4⟩ := hs
  simp only at h1 h2 h3 h4 hrec ⊢
  unfold Sh.f4o
  cases k with
  | zero =>
   have hrow := row_ms (l := O) (H := H ++ [Blk.cel 0 (flat cU O)]) (id := H.length) AA
   rw [h2] at hrow
   have hn := q01_normR hrow (by omega) h3
   have hv : val O = val l / m := by simpa using h4
   have hlt : val l % m < m := Nat.mod_lt _ hm0
   have hcv : AU .u32 (.int .u64 ((val l % m : Nat) : Int)) = some (.int .u32 ((val l % m : Nat) : Int)) := by rw [BJ, CM (by omega) (by omega)]
   simp only [GMb, GMc, Aw, show ¬ (((0 : Nat) : Int) - 1 ≥ 0) from by decide, hn, List.drop_zero, hcv, hv, D0, EI, Ct, CU, JZ, DJ, Option.map_some]
  | succ j =>
   have hj : j < l.length := h1
   have hi : ((j + 1 : Nat) : Int) - 1 = (j : Int) := by omega
   have ha := hx _ (List.getElem_mem hj)
   have hd : l.drop j = l[j] :: l.drop (j + 1) := List.drop_eq_getElem_cons hj
   have hr : val (l.drop (j + 1)) % m < m := Nat.mod_lt _ hm0
   obtain ⟨s1, s2⟩ := div_step (m := m) (a := l[j]) (v := val (l.drop (j + 1))) hm0
   have hq := quo_lt (m := m) (a := l[j]) (r := val (l.drop (j + 1)) % m) hr ha
   have hmul : val (l.drop (j + 1)) % m * 4294967296 ≤ 4294967295 * 4294967296 := Nat.mul_le_mul_right _ (by omega)
   generalize hrr : val (l.drop (j + 1)) % m = r at *
   have w1 : IntKind.u64.wrap ((r : Int) * 4294967296) = ((r * 4294967296 : Nat) : Int) := by rw [C6] <;> omega
   have w2 : AU .u64 (.int .u32 (l[j] : Int)) = some (.int .u64 (l[j] : Int)) := by rw [BJ, C6 (by omega) (by omega)]
   have w3 : IntKind.u64.wrap (((r * 4294967296 : Nat) : Int) + (l[j] : Int)) = ((r * 4294967296 + l[j] : Nat) : Int) := by rw [C6] <;> omega
   have w4 : IntKind.u64.wrap (((r * 4294967296 + l[j] : Nat) : Int).tdiv (m : Int)) = (((r * 4294967296 + l[j]) / m : Nat) : Int) := by
    rw [show (((r * 4294967296 + l[j] : Nat) : Int).tdiv (m : Int)) = (((r * 4294967296 + l[j]) / m : Nat) : Int) from rfl, C6 (Int.natCast_nonneg _) (Int.lt_of_lt_of_le (Int.ofNat_lt.2 hq) (by decide))]
   have w5 : AU .u32 (.int .u64 (((r * 4294967296 + l[j]) / m : Nat) : Int)) = some (.int .u32 (((r * 4294967296 + l[j]) / m : Nat) : Int)) := by rw [BJ, CM (Int.natCast_nonneg _) (Int.ofNat_lt.2 hq)]
   have w6 : (((r * 4294967296 + l[j] : Nat) : Int).tmod (m : Int)) = (((r * 4294967296 + l[j]) % m : Nat) : Int) := rfl
   have w7 : IntKind.i64.wrap ((j : Int) - 1) = (j : Int) - 1 := Ay (by omega) (by omega)
   have hidx := DZ (sz := 1) (id := H.length) (n := l.length) (K := .i64) (g := 0) (off := 0) (cap := l.length) (ex := true) (i := j) hj
   simp only [Nat.zero_add, Nat.mul_one] at hidx
   have hst := Ft (f := cU) (sz := 1) (l := O) (i := j) (a := (r * 4294967296 + l[j]) / m) (v := .int .u32 (((r * 4294967296 + l[j]) / m : Nat) : Int)) (H := H ++ [Blk.cel 0 (flat cU O)]) (id := H.length) (AT AA) (by omega) rfl
   rw [Nat.mul_one, C8 AA, BU] at hst
   have hge : ((j : Int) ≥ 0) := by omega
   have hmz : (m : Int) ≠ 0 := hm0'
   have := hrec (j, O.set j ((r * 4294967296 + l[j]) / m)) ⟨by omega, by simp [h2], fun x hxx => by
     rcases List.mem_or_eq_of_mem_set hxx with h | h
     ·exact h3 x h
     ·rw [h]; exact hq, by
     dsimp only
     rw [hd, Ov, s1, List.drop_set, if_neg (by omega), Nat.sub_self, List.drop_eq_getElem_cons (by omega : j < O.length), List.set_cons_zero, Ov, h4]⟩ (by dsimp only; omega)
   dsimp only at this
   rw [hd, Ov, s2] at this
   rw [hi]
   simp only [GMb, GMc, Aw, hge, w1, Av hj, As, List.getElem?_cons_zero, w2, w3, hcm 0, K7 hmz, w4, w5, hidx, hst, and_true, eq_self, HR hmz, w6, w7]
   exact this
end Go.Gm
namespace Go.Gm
def AP (n : Nat) : List UInt8 := if h : n < 10 then [UInt8.ofNat (48 + n)] else AP (n / 10) ++ [UInt8.ofNat (48 + n % 10)]
termination_by n
decreasing_by omega
def Gh (z : Int) : List UInt8 := if z < 0 then 45 :: AP z.natAbs else AP z.natAbs
theorem decN_len : ∀ n, (AP n).length ≤ n + 1 := by
 intro n
 induction n using Nat.strongRecOn with
 | ind n ih =>
  unfold AP
  split
  ·simp
  ·have := ih (n / 10) (by omega)
   simp; omega
theorem decN_log : ∀ (k n : Nat), n < 10 ^ (k + 1) → (AP n).length ≤ k + 1 := by
 intro k
 induction k with
 | zero => intro n h; unfold AP; rw [dif_pos (by omega)]; simp
 | succ k ih =>
  intro n h
  unfold AP
  split
  ·simp
  ·have h2 : n / 10 < 10 ^ (k + 1) := by
    rw [Nat.div_lt_iff_lt_mul (by omega), ← Nat.pow_succ]; exact h
   have := ih (n / 10) h2
   simp; omega
theorem Na (k n : Nat) (h : n < 10 ^ k) : (AP n).length ≤ k + (if k = 0 then 1 else 0) := by
 cases k with
 | zero => have := decN_log 0 n (by omega); simpa using this
 | succ k => have := decN_log k n h; simpa using this
theorem digit_u8 {d : Nat} (h : d < 10) : AU .u8 (.int .u32 (IntKind.u32.wrap (48 + (d : Int)))) = some (.int .u8 ((UInt8.ofNat (48 + d)).toNat : Int)) := by
 rw [BJ, CM (by omega) (by omega), wrap_u8 (by omega) (by omega), UInt8.toNat_ofNat_of_lt' (show 48 + d < 256 by omega)]
 rfl
theorem pow10_32 (k : Nat) : 10 ^ k ≤ 4294967296 ^ k := Nat.pow_le_pow_left (by omega) k
theorem Po {n : Nat} (h : n < 10 ^ 4096) : (Cy n).length ≤ 4096 := lims_len (Nat.lt_of_lt_of_le h (pow10_32 4096))
theorem OH (z : Int) (H : Ab) (hz : z.natAbs < 10 ^ 4096) : Sh.fj (big z) H = some (.ret (.str (Gh z)), H) := by
 unfold Sh.fj
 have g0 : Ad false 1 (.ptr H.length 0 0) (H ++ [Blk.cel 0 (Eo z)]) = some (.bool (decide (z < 0))) := by simp only [Ad, AT AA, Option.bind_some]; rfl
 have g1 : Ad false 1 (.ptr H.length 0 1) (H ++ [Blk.cel 0 (Eo z)]) = some (.sl (enL cU (Cy z.natAbs)) .no) := by simp only [Ad, AT AA, Option.bind_some]; rfl
 simp only [GMb, GMc, boxBig, Aj, Nat.zero_add, g1]
 have hmeas : ∀ n : Nat, n < 10 ^ 4096 → (AP n).length ≤ 4096 := fun n h => Na 4096 n h
 have key := Bl (G := fun rec1 vs H1 => Sh.f4p H rec1 (ag vs 0) (ag vs 1) (ag vs 2) H1) (σ := Nat × List UInt8) (fun s => s.1 < 10 ^ 4096 ∧ s.2.length + (AP s.1).length ≤ 5000)
  (fun s => [.ptr H.length 0 0, .str s.2, .sl (enL cU (Cy s.1)) .no]) (fun _ => H ++ [.cel 0 (Eo z)]) (fun s => (AP s.1).length)
  (fun s => some (.ret (.str ((if z < 0 then [45] else []) ++ AP s.1 ++ s.2)), H)) (fun s rec hs hrec => ?_) (z.natAbs, []) ⟨hz, by have := hmeas _ hz; simp; omega⟩ (by have := hmeas _ hz; dsimp only; omega)
 ·refine key.trans ?_
  unfold Gh
  dsimp only
  split <;> simp
 ·obtain ⟨n, s⟩ := s
  obtain ⟨h1, h2⟩ := hs
  simp only at h1 h2 hrec ⊢
  have hdiv := fun H => q01_div (Cy n) .no 10 H (by have := Po h1; omega) (lim_lims n) (by omega) (by omega)
  simp only [Gl, show ((10 : Nat) : Int) = 10 from rfl] at hdiv
  have hd : n % 10 < 10 := Nat.mod_lt _ (by omega)
  have hdig := digit_u8 hd
  unfold Sh.f4p
  simp only [GMb, GMc, Aw, hdiv, Dg, Ez, hdig, build_Y, toStr_enL]
  rw [Bm (by simp; omega)]
  simp only [GMb, GMc, A2]
  by_cases hn : n < 10
  ·have h0 : n / 10 = 0 := by omega
   have hm : n % 10 = n := by omega
   have hdn : AP n = [UInt8.ofNat (48 + n)] := by unfold AP; rw [dif_pos hn]
   rw [hdn, h0, Kw, hm]
   simp only [GMb, GMc, List.length_nil, show ((0 : Nat) : Int) = 0 from rfl, Aj, Nat.add_zero, g0]
   by_cases hz0 : z < 0
   ·simp only [hz0, GMb, GMc]
    rw [Bm (by simp; omega)]
    simp only [GMb, GMc, rP_str]
    simp
   ·simp only [hz0, GMb, GMc, rP_str]
    simp
  ·have h0 : n / 10 ≠ 0 := by omega
   have hne : ¬ ((Cy (n / 10)).length : Int) = 0 := by
    have := List.length_pos_iff.2 (lims_ne h0); omega
   have hdn : AP n = AP (n / 10) ++ [UInt8.ofNat (48 + n % 10)] := by
    conv => lhs; unfold AP
    rw [dif_neg hn]
   have hlen : (AP n).length = (AP (n / 10)).length + 1 := by rw [hdn]; simp
   have := hrec (n / 10, [UInt8.ofNat (48 + n % 10)] ++ s) ⟨Nat.lt_of_le_of_lt (Nat.div_le_self _ _) h1, by simp; omega⟩ (by dsimp only; omega)
   simp only [hne, GMb, GMc]
   rw [this, hdn]
   simp
end Go.Gm
namespace Go.Gm
abbrev Er := Option (Int × List UInt8)
def codeR : Er → Int
 | none => 0
 | some e => e.1
@[simp] theorem codeR_none : codeR none = 0 := rfl
@[simp] theorem codeR_some (e : Int × List UInt8) : codeR (some e) = e.1 := rfl
def Fs (b : List UInt8) (a : Nat) (s : List UInt8) : Int × List UInt8 := if a = b.length then (3, s) else (2, [])
def BA (b : List UInt8) (a : Nat) (s rest : List UInt8) : Er × Nat := (if cpN (b.drop a) s < s.length then some (Fs b (Ho b a s) (s.drop (cpN (b.drop a) s) ++ rest)) else none, Ho b a s)
def Hw (b : List UInt8) (a : Nat) (rest : List UInt8) : Er × Nat := (if a = b.length then none else if A7 b (crN b a) [10] then none else some (Fs b (crN b a) (10 :: rest)), eolN b a)
def NO (b : List UInt8) (f : Nat) (rest : List UInt8) : Er × Nat := (if FN b f 40 f = f then some (Fs b f (97 :: rest)) else none, FN b f 40 f)
def BI : List UInt8 := [48, 49, 50, 51, 52, 53, 54, 55, 56, 57]
def Lo (b : List UInt8) (f : Nat) (rest : List UInt8) : Nat → Nat → Er × Nat
 | 0, a => (none, a)
 | n + 1, a =>
  if A7 b a BI then
   if f < a ∧ b[f]? = some 48 then (some (Fs b a []), a)
   else if a - f = 400 then (some (4, []), a)
   else Lo b f rest n (a + 1)
  else if a = f then (some (Fs b a (49 :: rest)), a) else (none, a)
def NU (b : List UInt8) (a : Nat) (neg : Bool) : Nat := if neg && A7 b a [45] then a + 1 else a
def Gf (b : List UInt8) (a : Nat) (neg : Bool) (rest : List UInt8) : Er × Nat :=
 if neg && A7 b a [45] && A7 b (a + 1) [48] then (some (Fs b (a + 1) []), a + 1) else Lo b (NU b a neg) rest 402 (NU b a neg)
structure MSt where
 law : List UInt8
 nodes : List Nd
 lines : List (Nat × Int)
def Pa (b : List UInt8) (a : Nat) (st : MSt) : (Er × Nat) × MSt :=
 if A7 b (a + 1) [67] then ((none, FL b (a + 1)), st)
 else if A7 b (a + 1) [71] then
  match BA b (a + 1) [71, 32] [49] with
  | (some e, c) => ((some e, c), st)
  | (none, c) => (Gf b c false [], st)
 else if A7 b (a + 1) [82] then
  match BA b (a + 1) [82, 32] [97] with
  | (some e, c) => ((some e, c), st)
  | (none, c) => match NO b c [] with
   | (some e, d) => ((some e, d), st)
   | (none, d) => ((none, d), { st with law := (b.take d).drop c })
 else ((some (Fs b (a + 1) [67]), a + 1), st)
def sqK (on : Nat → Nat → Bool) (rec : Nat → Nat → List Nd → List Nd) (level x y half : Nat) : Nat → List Nd → List Nd × Nd
 | 0, l => (l, ⟨level, 0, 0, 0, 0⟩)
 | k + 1, l =>
  let r := sqK on rec level x y half k l
  if level ≤ 1 then (r.1, r.2.setKid k (if on (x + k % 2 * half) (y + k / 2 * half) then 1 else 0))
  else let m := rec (x + k % 2 * half) (y + k / 2 * half) r.1
   (m, r.2.setKid k (m.length : Int))
def sqF (on : Nat → Nat → Bool) : Nat → Nat → Nat → List Nd → List Nd
 | 0, _, _, l => l
 | v + 1, x, y, l =>
  let r := sqK on (sqF on v) (v + 1) x y (2 ^ v) 4 l
  r.1 ++ [r.2]
def onQ (on : List Bool) (x y : Nat) : Bool := on.getD (y * 8 + x) false
def DH (b : List UInt8) : Nat → Nat → Nat → Nat → List Bool → Er × Nat × List Bool
 | 0, a, _, _, on => (none, a, on)
 | n + 1, a, x, y, on =>
  if A7 b a [46, 42, 36] then
   if y = 8 ∨ (x = 8 ∧ ¬ A7 b a [36] = true) then (some (Fs b a []), a, on)
   else if A7 b a [36] then DH b n (a + 1) 0 (y + 1) on
   else DH b n (a + 1) (x + 1) y (on.set (y * 8 + x) (A7 b a [42]))
  else (none, a, on)
def Pq (b : List UInt8) (a : Nat) (st : MSt) : (Er × Nat) × MSt :=
 match DH b (b.length + 1 - a) a 0 0 (List.replicate 64 false) with
 | (some e, c, _) => ((some e, c), st)
 | (none, c, on) => ((none, c), { st with nodes := sqF (onQ on) 3 0 0 st.nodes, lines := st.lines ++ [((sqF (onQ on) 3 0 0 st.nodes).length, 3)] })
def Dh (b : List UInt8) (a : Nat) : Nat := (b.getD a 48).toNat - 48
def FK (b : List UInt8) : Nat → Nat → Nat → Er × Nat × Nat
 | 0, a, n => (none, a, n)
 | k + 1, a, n =>
  if A7 b a BI then
   if 1329 < 10 * n + Dh b a then (some (4, []), a, n) else FK b k (a + 1) (10 * n + Dh b a)
  else if n = 0 then (some (Fs b a []), a, n) else (none, a, n)
def BT (b : List UInt8) (a : Nat) : Er × Nat × Nat := if A7 b a [48] then (some (Fs b a []), a, 0) else FK b (b.length + 1 - a) a 0
def CQ (lines : List (Nat × Int)) (level : Int) (n : Nat) : Bool :=
 if level = 1 then decide (n ≤ 255) else if n = 0 then true else match lines[n - 1]? with
  | some q => decide (q.2 = level - 1)
  | none => false
def Fz (lines : List (Nat × Int)) (level : Int) : Nat → Nat → Nat → Option Nat
 | 0, _, _ => none
 | f + 1, low, high =>
  if low ≤ lines.length then
   match (List.range (min high lines.length + 1 - low)).find? (fun i => CQ lines level (low + i)) with
   | some i => some (low + i)
   | none => Fz lines level f (low * 10) (high * 10 + 9)
  else none
def EF (lines : List (Nat × Int)) (level : Int) (n : Nat) : Option Nat := if CQ lines level n then some n else if n = 0 then none else Fz lines level (lines.length + 1) (n * 10) (n * 10 + 9)
def G4 (b : List UInt8) (lines : List (Nat × Int)) (level : Int) (f : Nat) (rest : List UInt8) : Nat → Nat → Nat → Er × Nat × Nat
 | 0, a, n => (none, a, n)
 | k + 1, a, n =>
  if A7 b a BI then
   if f < a ∧ n = 0 then (some (Fs b a []), a, n)
   else if (EF lines level (10 * n + Dh b a)).isSome then G4 b lines level f rest k (a + 1) (10 * n + Dh b a)
   else (some (Fs b a []), a, n)
  else if a = f then (some (Fs b a (48 :: rest)), a, n)
  else if CQ lines level n then (none, a, n)
  else (some (Fs b a ((AP ((EF lines level n).getD 0)).drop (a - f) ++ rest)), a, n)
def DP (lines : List (Nat × Int)) (level : Int) (n : Nat) : Nat := if 1 < level ∧ 0 < n then ((lines[n - 1]?).getD (0, 0)).1 else n
def LT (b : List UInt8) (a : Nat) (lines : List (Nat × Int)) (level : Int) (rest : List UInt8) : Er × Nat × Nat :=
 match G4 b lines level a rest (b.length + 1 - a) a 0 with
 | (e, c, n) => (e, c, DP lines level n)
def DX (b : List UInt8) (lines : List (Nat × Int)) (level : Int) : Nat → Nat → Nat → Nd → List UInt8 → Er × Nat × Nd
 | 0, _, a, x, _ => (none, a, x)
 | d + 1, k, a, x, rest => match BA b a [32] (48 :: rest) with
  | (some e, c) => (some e, c, x)
  | (none, c) => match LT b c lines level rest with
   | (some e, c', _) => (some e, c', x)
   | (none, c', n) => DX b lines level d (k + 1) c' (x.setKid k (n : Int)) (rest.drop 2)
def LM (b : List UInt8) (a : Nat) (st : MSt) : (Er × Nat) × MSt :=
 match BT b a with
 | (some e, c, _) => ((some e, c), st)
 | (none, c, v) => match DX b st.lines v 4 0 c ⟨v, 0, 0, 0, 0⟩ [32, 48, 32, 48, 32, 48] with
  | (some e, c', _) => ((some e, c'), st)
  | (none, c', x) => ((none, c'), { st with nodes := st.nodes ++ [x], lines := st.lines ++ [(st.nodes.length + 1, (v : Int))] })
def rlS (b : List UInt8) (N : Int) (a : Nat) (st : MSt) : (Er × Nat) × MSt :=
 if A7 b a [35] then Pa b a st
 else if A7 b a [46, 42, 36, 49, 50, 51, 52, 53, 54, 55, 56, 57] && decide ((st.lines.length : Int) ≥ N) then ((some (4, []), a), st)
 else if A7 b a [46, 42, 36] then Pq b a st
 else LM b a st
def M4 (b : List UInt8) (N : Int) (a : Nat) (st : MSt) : (Er × Nat) × MSt :=
 match rlS b N a st with
 | ((some e, c), st') => ((some e, c), st')
 | ((none, c), st') => (Hw b c [], st')
def Dl (b : List UInt8) (N : Int) : Nat → Nat → MSt → (Er × Nat) × MSt
 | 0, a, st => ((none, a), st)
 | k + 1, a, st =>
  if a = b.length then ((none, a), st)
  else match M4 b N a st with
   | ((some e, c), st') => ((some e, c), st')
   | ((none, c), st') => Dl b N k c st'
def Cs : List UInt8 := [91, 77, 50, 93]
def DM : List UInt8 := [66, 51, 47, 83, 50, 51]
def GJ (b : List UInt8) (N : Int) (st : MSt) : (Er × Nat) × MSt :=
 match BA b 0 Cs [] with
 | (some e, c) => ((some e, c), st)
 | (none, c) => match Hw b (FL b c) [] with
  | (some e, d) => ((some e, d), st)
  | (none, d) => Dl b N (b.length + 1) d st
end Go.Gm
namespace Go.Gm

def Lp (b : List UInt8) (f : Nat) (rest : List UInt8) : Nat → Nat → Option Aa × Nat
 | 0, a => (none, a)
 | n + 1, a =>
  if A7 b a BI then
   if f < a ∧ b[f]? = some 48 then (some (Nr b a []), a)
   else if a - f = 400 then (some (Pz 4 []), a)
   else Lp b f rest n (a + 1)
  else if a = f then (some (Nr b a (49 :: rest)), a) else (none, a)
theorem numR_le (b : List UInt8) (f : Nat) (rest : List UInt8) : ∀ n a, a ≤ b.length → a ≤ (Lp b f rest n a).2 ∧ (Lp b f rest n a).2 ≤ b.length
 | 0, a, h => ⟨Nat.le_refl _, h⟩
 | n + 1, a, h => by
  unfold Lp
  by_cases hs : A7 b a BI = true
  ·rw [if_pos hs]
   by_cases h1 : f < a ∧ b[f]? = some 48
   ·rw [if_pos h1]; exact ⟨Nat.le_refl _, h⟩
   ·rw [if_neg h1]
    by_cases h2 : a - f = 400
    ·rw [if_pos h2]; exact ⟨Nat.le_refl _, h⟩
    ·rw [if_neg h2]
     have := numR_le b f rest n (a + 1) (Cf hs)
     exact ⟨by omega, this.2⟩
  ·rw [if_neg hs]
   by_cases h1 : a = f
   ·rw [if_pos h1]; exact ⟨Nat.le_refl _, h⟩
   ·rw [if_neg h1]; exact ⟨Nat.le_refl _, h⟩
theorem numR_on {b : List UInt8} {f a : Nat} {rest : List UInt8} {n : Nat} (hs : A7 b a BI = true) (h1 : ¬ (f < a ∧ b[f]? = some 48)) (h2 : ¬ a - f = 400) : Lp b f rest (n + 1) a = Lp b f rest n (a + 1) := by
 rw [Lp, if_pos hs, if_neg h1, if_neg h2]
noncomputable def numO (H0 K : Ab) (p : Nat) (b : List UInt8) (r : List Aa) (q from_ : Aa) : Option Aa × Nat → Out
 | (some v, e) => some (.pan v, AG K p b r e)
 | (none, e) => Sh.f2i H0 (.ptr p 0 0) q from_ (AG K p b r e)
theorem lx_num_loop {H0 K : Ab} {p f : Nat} {b : List UInt8} {r : List Aa} (h : Lx K p b f r) (hf : f ≤ b.length) (hb : b.length < 1152921504606846976) (rest : List UInt8) (hr : rest.length ≤ 1000000) (q from_ : Aa) :
  Ao (fun rec2 vs H => Sh.f2x H0 rec2 (ag vs 0) (ag vs 1) (ag vs 2) (ag vs 3) (ag vs 4) H) AI [.ptr p 0 0, .str rest, q, from_, .int .i64 (f : Int)] K = numO H0 K p b r q from_ (Lp b f rest 402 f) := by
 have key := Bl (G := fun rec2 vs H => Sh.f2x H0 rec2 (ag vs 0) (ag vs 1) (ag vs 2) (ag vs 3) (ag vs 4) H) (σ := Nat) (fun i => f ≤ i ∧ i ≤ b.length ∧ i - f ≤ 400) (fun _ => [.ptr p 0 0, .str rest, q, from_, .int .i64 (f : Int)]) (fun i => AG K p b r i) (fun i => b.length - i)
  (fun i => numO H0 K p b r q from_ (Lp b f rest (402 - (i - f)) i)) (fun i rec hi hrec => ?_) f ⟨Nat.le_refl _, hf, by omega⟩ (by omega)
 ·rw [B6 h, Nat.sub_self, Nat.sub_zero] at key; exact key
 ·obtain ⟨h1, h2, h3⟩ := hi
  have hx := Cw (a' := i) h
  have e : 402 - (i - f) = (401 - (i - f)) + 1 := by omega
  have hcat : Af .none .add (.str [49]) (.str rest) = some (.str (49 :: rest)) := Bm (by simp only [List.length_cons, List.length_nil]; omega)
  unfold Sh.f2x
  have hsee := BL hx h2 BI
  unfold BI at hsee
  rw [e]
  have hseesd : A7 b i [48, 49, 50, 51, 52, 53, 54, 55, 56, 57] = A7 b i BI := rfl
  simp only [GMb, GMc, hsee, hseesd]
  cases hs : A7 b i BI with
  | true =>
   have hlt := Cf hs
   have hfl : f < b.length := by omega
   have hw : IntKind.i64.wrap ((i : Int) - (f : Int)) = ((i - f : Nat) : Int) := by rw [Ay] <;> omega
   have tail : ¬ (f < i ∧ b[f]? = some 48) → ((Af .none .sub (.int .i64 (i : Int)) (.int .i64 (f : Int))).bind fun x56 =>
     (Af .none .eql x56 (.int .i64 400)).bind fun x57 =>
     Al x57 (bK H0 (Sh.f7 (.ptr p 0 0) (AG K p b r i)) fun x58 H59 => Sh.f2w H0 rec (.ptr p 0 0) (.str rest) q from_ (.int .i64 (f : Int)) H59)
      (Sh.f2w H0 rec (.ptr p 0 0) (.str rest) q from_ (.int .i64 (f : Int)) (AG K p b r i))) = numO H0 K p b r q from_ (Lp b f rest (401 - (i - f) + 1) i) := by
    intro hn
    simp only [GMb, GMc, hw]
    by_cases h4 : i - f = 400
    ·have h4' : ((i - f : Nat) : Int) = 400 := by omega
     rw [Lp, if_pos hs, if_neg hn, if_pos h4]
     simp only [h4', GMb, GMc, lx_limit]
     rfl
    ·have h4' : ¬ ((i - f : Nat) : Int) = 400 := by omega
     rw [numR_on hs hn h4]
     unfold Sh.f2w
     simp only [h4', GMb, GMc, Ae, Aj, Nat.zero_add, De hx, Au (show i < 9223372036854775807 by omega), E9 h]
     have := hrec (i + 1) ⟨by omega, by omega, by omega⟩ (by omega)
     rw [show 402 - (i + 1 - f) = 401 - (i - f) by omega] at this
     exact this
   by_cases hfi : f < i
   ·have hfi' : (i : Int) > (f : Int) := by omega
    simp only [GMb, GMc, Ae, Aj, Nat.zero_add, De hx, Qa hx, hfi', FV hfl, Aw]
    by_cases h0 : b[f] = 48
    ·rw [Lp, if_pos hs, if_pos ⟨hfi, by rw [List.getElem?_eq_getElem hfl, h0]⟩]
     simp only [h0, GMb, GMc, Ku hx]
     rfl
    ·have h0' : ¬ ((b[f].toNat : Int) = 48) := fun hc => h0 (UInt8.toNat_inj.1 (by show b[f].toNat = 48; omega))
     simp only [h0', GMb, GMc]
     exact tail (fun hc => h0 (by have := hc.2; rw [List.getElem?_eq_getElem hfl] at this; exact Option.some.inj this))
   ·have hfi' : ¬ (i : Int) > (f : Int) := by omega
    simp only [GMb, GMc, Ae, Aj, Nat.zero_add, De hx, hfi', Aw]
    exact tail (fun hc => hfi hc.1)
  | false =>
   rw [Lp, if_neg (by rw [hs]; exact Bool.false_ne_true)]
   simp only [GMb, GMc, Ae, Aj, Nat.zero_add, De hx, Aw]
   by_cases he : i = f
   ·have he' : (i : Int) = (f : Int) := by omega
    rw [if_pos he]
    simp only [he', GMb, GMc, hcat, Ku hx]
    rfl
   ·have he' : ¬ (i : Int) = (f : Int) := by omega
    rw [if_neg he]
    simp only [he', GMb, GMc]
    rfl
end Go.Gm
namespace Go.Gm
def IU (l : List Nat) : Nat → Nat
 | 0 => 0
 | k + 1 => if l[k]?.getD 0 = 0 then IU l k else k + 1
theorem topK_le (l : List Nat) : ∀ k, IU l k ≤ k
 | 0 => Nat.le_refl _
 | k + 1 => by
  have := topK_le l k
  unfold IU
  split <;> omega
theorem Qq {l : List Nat} (hx : Lim l) : ∀ k, k ≤ l.length → l.take (IU l k) = Cy (val (l.take k))
 | 0, _ => by
  have : Cy (val ([] : List Nat)) = [] := (Pn (l := []) ⟨fun x h => (by cases h), fun x h => (by cases h)⟩).symm
  simpa [IU] using this.symm
 | k + 1, hk => by
  have hg : l[k]? = some l[k] := List.getElem?_eq_getElem (by omega)
  have ht : l.take (k + 1) = l.take k ++ [l[k]] := List.take_succ_eq_append_getElem (by omega)
  unfold IU
  split
  ·rename_i h
   rw [Qq hx k (by omega), ht, Eu]
   rw [hg, Option.getD_some] at h
   rw [h]
   simp [val]
  ·rename_i h
   rw [hg, Option.getD_some] at h
   refine Pn ⟨fun x hxl => hx x (List.mem_of_mem_take hxl), fun x hxl => ?_⟩
   rw [ht, List.getLast?_concat] at hxl
   cases hxl
   exact h
theorem q_right {l : List Nat} {H : Ab} {id k : Nat} (hg : H[id]? = some (.cel 0 (flat cU l))) (hk : k ≤ l.length) (hl : l.length < 9223372036854775807) : Sh.f19 (.ms id 0 0 k l.length 1 true) H = some (.ret (.bool (decide (k = 0) || decide (l[k - 1]?.getD 0 ≠ 0))), H) := by
 unfold Sh.f19
 cases k with
 | zero => simp [A8]
 | succ k =>
  have hidx := DZ (sz := 1) (id := id) (n := k + 1) (K := .i64) (g := 0) (off := 0) (cap := l.length) (ex := true) (i := k) (by omega)
  simp only [Nat.zero_add, Nat.mul_one] at hidx
  have hld := Hm (f := cU) (id := id) (l := l) (H := H) (show A4 H id 0 = some (flat cU l) by simp [A4, hg]) (i := k) (by omega)
  have h0 : ¬ ((k + 1 : Nat) : Int) = 0 := by omega
  have hw : IntKind.i64.wrap (((k + 1 : Nat) : Int) - 1) = (k : Int) := by rw [Ay] <;> omega
  have hgk : l[k]? = some l[k] := List.getElem?_eq_getElem (by omega)
  simp only [show A8 (.ms id 0 0 (k + 1) l.length 1 true) = some (.int .i64 ((k + 1 : Nat) : Int)) from rfl, GMb, GMc, h0, hw, hidx, hld, Nat.add_sub_cancel, hgk, Option.getD_some, Nat.succ_ne_zero]
  by_cases h : l[k] = 0
  ·simp [h]
  ·have : ¬ (l[k] : Int) = 0 := by omega
   simp [h, this]
theorem q_cut {l : List Nat} {H : Ab} {id : Nat} (hg : H[id]? = some (.cel 0 (flat cU l))) (hl : l.length < 1152921504606846976) : Sh.f1a (.ms id 0 0 l.length l.length 1 true) H = some (.ret (.ms id 0 0 (IU l l.length) l.length 1 true), H) := by
 unfold Sh.f1a
 refine Bl (σ := Nat) (fun k => k ≤ l.length ∧ IU l k = IU l l.length) (fun k => [.ms id 0 0 k l.length 1 true]) (fun _ => H) (fun k => k) (fun _ => some (.ret (.ms id 0 0 (IU l l.length) l.length 1 true), H)) (fun k rec hi hrec => ?_) l.length ⟨Nat.le_refl _, rfl⟩ (by omega)
 obtain ⟨hk, ht⟩ := hi
 unfold Sh.f4u
 simp only [A9, q_right hg hk (by omega), GMb, GMc]
 cases k with
 | zero => simp [← ht, IU, rKN, fin, forget, Fc, fgt]
 | succ k =>
  by_cases h : l[k]?.getD 0 = 0
  ·have hw : IntKind.i64.wrap (((k + 1 : Nat) : Int) - 1) = (k : Int) := by rw [Ay] <;> omega
   have hsl : EZ 1 (.ms id 0 0 (k + 1) l.length 1 true) none (some (.int .i64 (k : Int))) none = some (.ms id 0 0 k l.length 1 true) := by
    have : (0 : Int) ≤ (k : Int) := by omega
    simp only [EZ, AW, Option.bind_some, this, if_true, Int.toNat_natCast]
    rw [if_pos ⟨trivial, by omega, by omega, by omega⟩]
    simp
   have ht' : IU l k = IU l l.length := by rw [← ht]; simp [IU, h]
   have hr := hrec k ⟨by omega, ht'⟩ (by omega)
   simp only [h, show A8 (.ms id 0 0 (k + 1) l.length 1 true) = some (.int .i64 ((k + 1 : Nat) : Int)) from rfl, GMb, GMc, hw, hsl, Nat.add_sub_cancel, ne_eq, not_true_eq_false, Nat.succ_ne_zero]
   exact hr
  ·have ht' : IU l (k + 1) = k + 1 := by simp [IU, h]
   rw [← ht, ht']
   simp only [h, GMb, GMc, Nat.add_sub_cancel, ne_eq, not_false_eq_true, Nat.succ_ne_zero]
   simp [rKN, fin, forget, Fc, fgt]
end Go.Gm
namespace Go.Gm
theorem fall_msT {α : Type} {f : α → List Aa} {sz : Nat} [hf : Sz f sz] [hp : Pl f] {H : Ab} {l : List α} {id b d cap k : Nat} {ex : Bool} (hg : A4 H id 0 = some (flat f l)) (hi : b ≤ id) (hk : k ≤ l.length) : ER H b (d + 3) (.ms id 0 0 k cap sz ex) = some (.sl (enL f (l.take k)) .no) := by
 have h1 : ¬ id < b := by omega
 have h2 : k * sz ≤ l.length * sz := Nat.mul_le_mul_right _ hk
 have h3 : (l.take k).length = k := by simp; omega
 have h4 := PE (f := f) (l.take k)
 rw [h3] at h4
 unfold ER
 simp only [frz, h1, if_false, hg, Option.bind_some, List.drop_zero, Nat.zero_add, Ka, h2, if_true, MW, Gw (Oi (f := f) (l.take k)), flat_imm (f := f) (l.take k), h4, Option.map_some, forget, Fc, fgt]
theorem wrap_u32m (t : Nat) : IntKind.u32.wrap (t : Int) = ((t % 4294967296 : Nat) : Int) := by
 simp only [IntKind.wrap, IntKind.bits, IntKind.signed]
 simp
theorem bin_shr64 (t : Nat) : Af .none .shr (.int .u64 (t : Int)) (.int .u64 32) = some (.int .u64 ((t / 4294967296 : Nat) : Int)) := by
 show some (Aa.int .u64 ((t : Int).fdiv 4294967296)) = _
 rw [Int.fdiv_eq_ediv_of_nonneg _ (by decide)]
 rfl
theorem mul_step {x m c : Nat} (hx : x < 4294967296) (hm : m < 4294967296) (hc : c < 4294967296) : c + x * m < 18446744073709551616 := by
 have h1 : x * m ≤ 4294967295 * 4294967295 := Nat.mul_le_mul (by omega) (by omega)
 omega
theorem val_single (x : Nat) : val [x] = x := by simp [val]
def CL (l : List Nat) (m c : Nat) : Nat → List Nat × Nat
 | 0 => ([], c)
 | i + 1 => ((CL l m c i).1 ++ [((CL l m c i).2 + l[i]?.getD 0 * m) % 4294967296], ((CL l m c i).2 + l[i]?.getD 0 * m) / 4294967296)
theorem mulS_ok {l : List Nat} {m c : Nat} (hx : Lim l) (hm : m < 4294967296) (hc : c < 4294967296) : ∀ i, i ≤ l.length →
  (CL l m c i).1.length = i ∧ (CL l m c i).2 < 4294967296 ∧ Lim (CL l m c i).1 ∧ val (CL l m c i).1 + 4294967296 ^ i * (CL l m c i).2 = val (l.take i) * m + c
 | 0, _ => ⟨rfl, hc, fun x h => (by cases h), by simp [CL, val]⟩
 | i + 1, hi => by
  obtain ⟨h1, h2, h3, h4⟩ := mulS_ok hx hm hc i (by omega)
  have hxi := hx _ (List.getElem_mem (show i < l.length by omega))
  have hg : l[i]?.getD 0 = l[i] := by rw [List.getElem?_eq_getElem (by omega)]; rfl
  have ht := mul_step hxi hm h2
  simp only [CL, hg]
  refine ⟨by simp [h1], ?_, ?_, ?_⟩
  ·omega
  ·intro x hxx
   rcases List.mem_append.1 hxx with h | h
   ·exact h3 x h
   ·rw [List.mem_singleton.1 h]; exact Nat.mod_lt _ (by decide)
  ·rw [List.take_succ_eq_append_getElem (by omega), Eu, Eu, h1, List.length_take, Nat.min_eq_left (by omega)]
   have hdm := Nat.div_add_mod ((CL l m c i).2 + l[i] * m) 4294967296
   simp only [val, Nat.mul_zero, Nat.add_zero]
   generalize ((CL l m c i).2 + l[i] * m) / 4294967296 = q at *
   generalize ((CL l m c i).2 + l[i] * m) % 4294967296 = r at *
   rw [Nat.pow_succ, Nat.mul_assoc, Nat.add_assoc, ← Nat.mul_add, show r + 4294967296 * q = (CL l m c i).2 + l[i] * m by omega, Nat.mul_add, Nat.add_mul]
   rw [← Nat.add_assoc, h4, Nat.mul_assoc]
   omega
theorem q_mul {l : List Nat} {tk : Tok} {m c : Nat} (H : Ab) (hx : Lim l) (hl : l.length ≤ 1099511627776) (hm : m < 4294967296) (hc : c < 4294967296) :
  Sh.f1h (.sl (enL cU l) tk) (.int .u32 (m : Int)) (.int .u32 (c : Int)) H = some (.ret (.sl (enL cU (Cy (val l * m + c))) .no), H) := by
 unfold Sh.f1h
 have hn : IntKind.i64.wrap ((l.length : Int) + 1) = ((l.length + 1 : Nat) : Int) := by rw [Ay] <;> omega
 have hmk := Fm (f := cU) (a := 0) (n := l.length + 1) (bytes := 4) (H := H) (by omega) (by omega)
 simp only [show cU 0 = [Aa.int .u32 0] from rfl] at hmk
 have hcc : AU .u64 (.int .u32 (c : Int)) = some (.int .u64 (c : Int)) := by rw [BJ, C6 (by omega) (by omega)]
 have hcm : AU .u64 (.int .u32 (m : Int)) = some (.int .u64 (m : Int)) := by rw [BJ, C6 (by omega) (by omega)]
 simp only [GMb, GMc, A2, hn, hmk, hcc]
 refine BM l.length (fun i => [.sl (enL cU l) tk, .int .u32 (m : Int), .ms H.length 0 0 (l.length + 1) (l.length + 1) 1 true, .int .u64 ((CL l m c i).2 : Int), .sl (enL cU l) tk, .int .i64 (l.length : Int), .int .i64 (i : Int)])
  (fun i => H ++ [.cel 0 (flat cU ((CL l m c i).1 ++ List.replicate (l.length + 1 - i) 0))]) _ (by omega) (fun rec i hi => ?_) (fun rec => ?_)
 ·obtain ⟨h1, h2, h3, h4⟩ := mulS_ok hx hm hc i (by omega)
  have hi' : (i : Int) < (l.length : Int) := by omega
  have hxi := hx _ (List.getElem_mem hi)
  have hg : l[i]?.getD 0 = l[i] := by rw [List.getElem?_eq_getElem hi]; rfl
  have ht := mul_step hxi hm h2
  have hidx := DZ (sz := 1) (id := H.length) (n := l.length + 1) (K := .i64) (g := 0) (off := 0) (cap := l.length + 1) (ex := true) (i := i) (by omega)
  simp only [Nat.zero_add, Nat.mul_one] at hidx
  obtain ⟨t, htt⟩ : ∃ t, t = (CL l m c i).2 + l[i] * m := ⟨_, rfl⟩
  have hP : l[i] * m ≤ 4294967295 * 4294967295 := Nat.mul_le_mul (by omega) (by omega)
  have w1 : AU .u64 (.int .u32 (l[i] : Int)) = some (.int .u64 (l[i] : Int)) := by rw [BJ, C6 (by omega) (by omega)]
  have w2 : IntKind.u64.wrap ((l[i] : Int) * (m : Int)) = ((l[i] * m : Nat) : Int) := by rw [← Int.natCast_mul, C6 (by omega) (by omega)]
  have w3 : IntKind.u64.wrap (((CL l m c i).2 : Int) + ((l[i] * m : Nat) : Int)) = (t : Int) := by rw [C6] <;> omega
  have w4 : AU .u32 (.int .u64 (t : Int)) = some (.int .u32 ((t % 4294967296 : Nat) : Int)) := by rw [BJ, wrap_u32m]
  have w5 : Af .none .shr (.int .u64 (t : Int)) (.int .u64 32) = some (.int .u64 ((t / 4294967296 : Nat) : Int)) := bin_shr64 t
  have w6 : IntKind.i64.wrap ((i : Int) + 1) = ((i + 1 : Nat) : Int) := by rw [Ay] <;> omega
  have hst := Ft (f := cU) (sz := 1) (l := (CL l m c i).1 ++ List.replicate (l.length + 1 - i) 0) (i := i) (a := t % 4294967296) (v := .int .u32 ((t % 4294967296 : Nat) : Int)) (H := H ++ [Blk.cel 0 (flat cU ((CL l m c i).1 ++ List.replicate (l.length + 1 - i) 0))]) (id := H.length) (AT AA) (by simp; omega) rfl
  have hset : ((CL l m c i).1 ++ List.replicate (l.length + 1 - i) 0).set i (t % 4294967296) = (CL l m c (i + 1)).1 ++ List.replicate (l.length + 1 - (i + 1)) 0 := by
   rw [show l.length + 1 - i = (l.length + 1 - (i + 1)) + 1 by omega, List.replicate_succ, List.set_append_right _ _ (by omega), h1, Nat.sub_self, List.set_cons_zero]
   simp [CL, hg, ← htt]
  rw [Nat.mul_one, C8 AA, BU, hset] at hst
  unfold Sh.f43
  simp only [GMb, GMc, Aw, hi', Av hi, As, List.getElem?_cons_zero, w1, hcm, w2, w3, w4, hidx, hst, w5, w6]
  simp only [CL, hg, ← htt]
 ·obtain ⟨h1, h2, h3, h4⟩ := mulS_ok hx hm hc l.length (Nat.le_refl _)
  have hidx := DZ (sz := 1) (id := H.length) (n := l.length + 1) (K := .i64) (g := 0) (off := 0) (cap := l.length + 1) (ex := true) (i := l.length) (by omega)
  simp only [Nat.zero_add, Nat.mul_one] at hidx
  have w4 : AU .u32 (.int .u64 ((CL l m c l.length).2 : Int)) = some (.int .u32 ((CL l m c l.length).2 : Int)) := by rw [BJ, CM (by omega) (by omega)]
  have hst := Ft (f := cU) (sz := 1) (l := (CL l m c l.length).1 ++ List.replicate (l.length + 1 - l.length) 0) (i := l.length) (a := (CL l m c l.length).2) (v := .int .u32 ((CL l m c l.length).2 : Int)) (H := H ++ [Blk.cel 0 (flat cU ((CL l m c l.length).1 ++ List.replicate (l.length + 1 - l.length) 0))]) (id := H.length) (AT AA) (by simp; omega) rfl
  have hset : ((CL l m c l.length).1 ++ List.replicate (l.length + 1 - l.length) 0).set l.length (CL l m c l.length).2 = (CL l m c l.length).1 ++ [(CL l m c l.length).2] := by
   rw [show l.length + 1 - l.length = 1 by omega, List.set_append_right _ _ (by omega), h1, Nat.sub_self]
   rfl
  rw [Nat.mul_one, C8 AA, BU, hset] at hst
  obtain ⟨o, ho⟩ : ∃ o, o = (CL l m c l.length).1 ++ [(CL l m c l.length).2] := ⟨_, rfl⟩
  have hol : o.length = l.length + 1 := by rw [ho]; simp [h1]
  have hox : Lim o := by
   intro x hxx
   rw [ho] at hxx
   rcases List.mem_append.1 hxx with h | h
   ·exact h3 x h
   ·rw [List.mem_singleton.1 h]; exact h2
  have hov : val o = val l * m + c := by
   rw [ho, Eu, h1, val_single]
   rw [List.take_length] at h4
   exact h4
  rw [← ho] at hst
  have hct := q_cut (l := o) (H := H ++ [Blk.cel 0 (flat cU o)]) (id := H.length) AA (by omega)
  have htk := Qq hox o.length (Nat.le_refl _)
  rw [List.take_length, hov] at htk
  have hfa := fall_msT (f := cU) (sz := 1) (b := H.length) (d := 5) (cap := o.length) (ex := true) (k := IU o o.length) (l := o) (H := H ++ [Blk.cel 0 (flat cU o)]) (id := H.length) (AT AA) (Nat.le_refl _) (topK_le o _)
  rw [htk] at hfa
  rw [hol] at hct hfa
  unfold Sh.f43
  simp only [GMb, GMc, Aw, Int.lt_irrefl, A2, w4, hidx, hst, hct, D0, hfa, Option.map_some]
end Go.Gm
namespace Go.Gm
end Go.Gm
namespace Go.Gm
theorem decN_lib (n : Nat) : Lib.decDigits n = AP n := by
 induction n using Nat.strongRecOn with
 | ind n ih =>
  unfold Lib.decDigits AP
  split
  ·rfl
  ·rw [ih (n / 10) (by omega)]
theorem PC (n : Nat) : 0 < (AP n).length := by
 unfold AP
 split <;> simp
section
variable {H : Ab} {id g i : Nat} {L : List (List UInt8)}
end
def Turn (P L : List (List UInt8)) (i : Nat) : Prop := L.length = P.length ∧ ∀ k, k < P.length → L[k]? = if k < i ∨ P.length - i ≤ k then P[P.length - 1 - k]? else P[k]?
theorem Turn.step {P L : List (List UInt8)} {i : Nat} (h : Turn P L i) (hi : i < P.length - 1 - i) (hl : i < L.length) (hj : P.length - 1 - i < L.length) : Turn P ((L.set i L[P.length - 1 - i]).set (P.length - 1 - i) L[i]) (i + 1) := by
 obtain ⟨h1, h2⟩ := h
 refine ⟨by simp [h1], fun k hk => ?_⟩
 have ei := h2 i (by omega)
 have ej := h2 (P.length - 1 - i) (by omega)
 rw [List.getElem?_eq_getElem hl, if_neg (by omega)] at ei
 rw [List.getElem?_eq_getElem hj, if_neg (by omega)] at ej
 by_cases k1 : k = P.length - 1 - i
 ·subst k1
  rw [List.getElem?_set_self (by simp; omega), if_pos (by omega), ei]
  congr 1
  omega
 ·rw [List.getElem?_set_ne (Ne.symm k1)]
  by_cases k2 : k = i
  ·subst k2
   rw [List.getElem?_set_self hl, if_pos (by omega), ej]
  ·rw [List.getElem?_set_ne (Ne.symm k2), h2 k hk]
   by_cases k3 : k < i ∨ P.length - i ≤ k
   ·rw [if_pos k3, if_pos (by omega)]
   ·rw [if_neg k3, if_neg (by omega)]
theorem Turn.done {P L : List (List UInt8)} {i : Nat} (h : Turn P L i) (hi : ¬ i < P.length - 1 - i) : L = P.reverse := by
 apply List.ext_getElem?
 intro k
 by_cases hk : k < P.length
 ·rw [h.2 k hk, List.getElem?_reverse hk]
  split
  ·rfl
  ·congr 1
   omega
 ·rw [List.getElem?_eq_none (by rw [h.1]; omega), List.getElem?_eq_none (by simp; omega)]
end Go.Gm
