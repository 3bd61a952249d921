/- Texts of this proof, joined. -/
import Derived.Test.YtenmplcmmdaibaaGreatDoorJ2
import Derived.Test.YtenmplcmmdaibaaGreatDoorJ3
set_option linter.unusedVariables false
set_option linter.unusedSimpArgs false
namespace Go.Gm
def Gd : Aa → Bool
 | .bool _ => true
 | .int _ _ => true
 | .str _ => true
 | .sl _ .no => true
 | .sl _ .tight => true
 | _ => false
class Pl {α : Type} (f : α → List Aa) : Prop where
 pl : ∀ a, (f a).all Gd = true
instance : Pl cB := ⟨fun _ => rfl⟩
instance : Pl cU := ⟨fun _ => rfl⟩
instance : Pl cI := ⟨fun _ => rfl⟩
instance : Pl cN := ⟨fun _ => rfl⟩
instance : Pl cY := ⟨fun _ => rfl⟩
instance : Pl cS := ⟨fun _ => rfl⟩
instance : Pl cNd := ⟨fun _ => rfl⟩
theorem plnC_scal {c : Aa} (h : Gd c = true) : c.isScal = true := by cases c <;> first | rfl | (simp [Gd] at h)
theorem plnC_imm {c : Aa} (h : Gd c = true) : Bp c = true := by
 cases c <;> first | rfl | (simp [Gd] at h)
 rename_i es tk; cases tk <;> first | rfl | (simp [Gd] at h)
theorem plnC_frz {c : Aa} {H : Ab} {n d : Nat} (h : Gd c = true) : frz H n (d + 1) c = some c := by
 cases c <;> first | (simp [frz]; done) | (simp [Gd] at h)
 rename_i es tk; cases tk <;> first | (simp [frz]; done) | (simp [Gd] at h)
theorem GI {H : Ab} {n d : Nat} : ∀ {cs : List Aa}, cs.all Gd = true → DT H n (d + 2) cs = some cs
 | [], _ => by simp [DT]
 | c :: cs, h => by
  simp only [List.all_cons, Bool.and_eq_true] at h
  simp [DT, plnC_frz h.1, GI h.2]
section
variable {α : Type} {f : α → List Aa} {l : List α} {sz i n : Nat} {a : α} {H : Ab} {id : Nat} {K : IntKind}
def flat (f : α → List Aa) (l : List α) : List Aa := l.flatMap f
@[simp] theorem flat_nil : flat f [] = [] := (rfl)
theorem Ck : flat f (a :: l) = f a ++ flat f l := by simp [flat]
theorem flat_append {m : List α} : flat f (l ++ m) = flat f l ++ flat f m := by simp [flat]
theorem Ks [hf : Sz f sz] : ∀ (l : List α), (flat f l).length = l.length * sz
 | [] => by simp
 | a :: l => by
  have := Ks l
  simp only [Ck, List.length_append, hf.len, List.length_cons, Nat.succ_mul]
  omega
theorem OP [hp : Pl f] : ∀ (l : List α), (flat f l).all Gd = true
 | [] => rfl
 | a :: l => by simp only [Ck, List.all_append, Bool.and_eq_true]; exact ⟨hp.pl a, OP l⟩
theorem flat_imm [hp : Pl f] (l : List α) : (flat f l).all Bp = true := by
 rw [List.all_eq_true]; intro c hc; exact plnC_imm (List.all_eq_true.1 (OP (f := f) l) c hc)
theorem NA [hf : Sz f sz] : ∀ (l : List α) (i : Nat), (flat f l).drop (i * sz) = flat f (l.drop i)
 | [], i => by simp
 | a :: l, 0 => by simp
 | a :: l, i + 1 => by
  have := NA l i
  rw [List.drop_succ_cons, ← this, Ck, Nat.succ_mul, Nat.add_comm, List.drop_append, hf.len, List.drop_of_length_le (by rw [hf.len]; omega), List.nil_append]
  congr 1; omega
theorem N9 [hf : Sz f sz] : ∀ (l : List α) (i : Nat), (flat f l).take (i * sz) = flat f (l.take i)
 | [], i => by simp
 | a :: l, 0 => by simp
 | a :: l, i + 1 => by
  have := N9 l i
  rw [List.take_succ_cons, Ck, Ck, ← this, Nat.succ_mul, Nat.add_comm, List.take_append, hf.len, List.take_of_length_le (by rw [hf.len]; omega)]
  congr 2; omega
theorem flat_at [hf : Sz f sz] (h : i < l.length) : ((flat f l).drop (i * sz)).take sz = f l[i] := by
 rw [NA, List.drop_eq_getElem_cons h, Ck, List.take_append_of_le_length (by rw [hf.len]; omega), List.take_of_length_le (by rw [hf.len]; omega)]
theorem flat_set [hf : Sz f sz] (h : i < l.length) : DQ (flat f l) (i * sz) sz (f a) = flat f (l.set i a) := by
 have e : l.set i a = l.take i ++ a :: l.drop (i + 1) := by rw [List.set_eq_take_append_cons_drop, if_pos h]
 have e2 : i * sz + sz = (i + 1) * sz := by rw [Nat.succ_mul]
 unfold DQ
 rw [e, e2, N9, NA, flat_append, Ck]
 simp
theorem flat_le [hf : Sz f sz] (h : i < l.length) : i * sz + sz ≤ (flat f l).length := by
 rw [Ks, ← Nat.succ_mul]; exact Nat.mul_le_mul_right _ h
theorem Ew {g off cap : Nat} {ex : Bool} (h : i < n) : A5 sz (.ms id g off n cap sz ex) (.int K (i : Int)) = some (.ptr id g (off + i * sz)) := by
 unfold A5
 simp only []
 rw [if_pos ⟨trivial, by omega, by omega⟩]; simp
theorem HJ [hf : Sz f 1] (hg : A4 H id 0 = some (flat f l)) (h : i < l.length) : Ad false 1 (.ptr id 0 i) H = (f l[i])[0]? := by
 have h1 := flat_at (f := f) (sz := 1) h
 have h2 := flat_le (f := f) (sz := 1) h
 simp only [Nat.mul_one] at h1 h2
 simp only [Ad, hg, Option.bind_some, Bool.false_eq_true, if_false]
 rw [← h1]; simp
theorem FG [hf : Sz f sz] {v : Aa} (hg : A4 H id 0 = some (flat f l)) (h : i < l.length) (hv : v.acells = some (f a)) : Al sz (.ptr id 0 (i * sz)) v H = some (Gc H id 0 (flat f (l.set i a))) := by
 simp only [Al, hg, Option.bind_some, hv, hf.len, flat_le h, and_self, if_true, flat_set h]
theorem Rb : ∀ (n : Nat), repl n (f a) = flat f (List.replicate n a)
 | 0 => rfl
 | n + 1 => by
  have := Rb n
  simp only [repl, List.replicate_succ, List.flatten_cons, Ck] at this ⊢
  rw [this]
theorem FA [hf : Sz f sz] [hp : Pl f] {bytes : Nat} (hb : n * bytes ≤ 140737488355328) (hn : n ≤ 140737488355328) : Fd sz bytes (some (f a)) (.int .i64 (n : Int)) (.int .i64 (n : Int)) H = some (.ms H.length 0 0 n n sz true, H ++ [.cel 0 (flat f (List.replicate n a))]) := by
 have h1 : ((n : Int) * (bytes : Int)) ≤ 140737488355328 := by
   have : ((n * bytes : Nat) : Int) ≤ 140737488355328 := by omega
   simpa using this
 have h2 : (f a).all Aa.isScal = true := by rw [List.all_eq_true]; intro c hc; exact plnC_scal (List.all_eq_true.1 (hp.pl a) c hc)
 unfold Fd
 simp only [Option.bind_some]
 rw [if_pos ⟨h2, hf.len a, by omega, by omega, h1, by omega⟩]
 simp only [Int.toNat_natCast, Rb]
theorem Qp [hf : Sz f sz] : ∀ (l : List α), Fi sz l.length (flat f l) = enL f l
 | [] => rfl
 | a :: l => by
  have := Qp l
  simp only [List.length_cons, Fi, Ck, enL, List.map_cons, List.take_append_of_le_length (Nat.le_of_eq (hf.len a).symm), List.take_of_length_le (Nat.le_of_eq (hf.len a)), List.drop_left' (hf.len a)]
  rw [this]; rfl
theorem fall_ms [hf : Sz f sz] [hp : Pl f] {b d cap : Nat} {ex : Bool} (hg : A4 H id 0 = some (flat f l)) (hi : b ≤ id) : Ft H b (d + 3) (.ms id 0 0 l.length cap sz ex) = some (.sl (enL f l) .no) := by
 have h1 : ¬ id < b := by omega
 unfold Ft
 simp only [frz, h1, if_false, hg, Option.bind_some, List.drop_zero, Nat.zero_add, Ks, Nat.le_refl, if_true, List.take_of_length_le (Nat.le_of_eq (Ks (f := f) l)), GI (OP (f := f) l), flat_imm (f := f) l, Qp, Option.map_some, forget, F2, fgt]
@[simp] theorem QZ {G : Ab} {g : Nat} {cs : List Aa} : Gc (H ++ G) H.length g cs = H ++ Gc G 0 g cs := Pr (k := 0)
@[simp] theorem setC_appK {G : Ab} {g k : Nat} {cs : List Aa} : Gc (H ++ G) (H.length + k) g cs = H ++ Gc G k g cs := Pr
@[simp] theorem QX {G : Ab} {g g' : Nat} {c cs : List Aa} : Gc (.cel g' c :: G) 0 g cs = .cel g cs :: G := (rfl)
@[simp] theorem setC_suc {G : Ab} {g k : Nat} {b : Blk} {cs : List Aa} : Gc (b :: G) (k + 1) g cs = b :: Gc G k g cs := QY

end
theorem AY {H : Ab} {p : Nat} {cs : List Aa} (hg : H[p]? = some (.cel 0 cs)) : A4 H p 0 = some cs := by simp [A4, hg]
theorem load_left {a : Bool} {sz p g o : Nat} {H G : Ab} {v : Aa} (h : Ad a sz (.ptr p g o) H = some v) : Ad a sz (.ptr p g o) (H ++ G) = some v := by
 unfold Ad at h ⊢
 simp only at h ⊢
 cases hg : A4 H p g with
 | none => rw [hg] at h; cases h
 | some cs =>
  have : A4 (H ++ G) p g = some cs := by
   have hlt : p < H.length := by
    by_cases hl : p < H.length
    ·exact hl
    ·unfold A4 at hg; rw [List.getElem?_eq_none (by omega)] at hg; cases hg
   rw [get_old hlt]; exact hg
  rw [this]; rw [hg] at h; exact h
theorem CK {H : Ab} {p : Nat} {cs cs' : List Aa} (hg : H[p]? = some (.cel 0 cs)) : Gc H p 0 cs' = H.set p (.cel 0 cs') := by simp [Gc, hg]
theorem AD {cs : List Aa} {B : Ab} : (B ++ [Blk.cel 0 cs])[B.length]? = some (.cel 0 cs) := by simp
theorem Cd {B : Ab} {b b' : Blk} : (B ++ [b]).set B.length b' = B ++ [b'] := by simp
end Go.Gm
namespace Go.Gm
theorem GMb : (((((((∀ {α β : Type} (a : α) (f : α → Option β), Option.bind (Option.some a) f = f a) ∧
 (∀ (v : Aa) (l : List Aa), ag (v :: l) 0 = v)) ∧
 ((∀ (a v : Aa) (l : List Aa), ag (a :: v :: l) 1 = v) ∧
 (∀ (a b v : Aa) (l : List Aa), ag (a :: b :: v :: l) 2 = v))) ∧
 (((∀ (a b c v : Aa) (l : List Aa), ag (a :: b :: c :: v :: l) 3 = v) ∧
 (∀ (a b c d v : Aa) (l : List Aa), ag (a :: b :: c :: d :: v :: l) 4 = v)) ∧
 ((∀ (a b c d e v : Aa) (l : List Aa), ag (a :: b :: c :: d :: e :: v :: l) 5 = v) ∧
 (∀ {ek : EqK} {k : IntKind} {a b : Int}, Af ek BinOp.lss (Aa.int k a) (Aa.int k b) = Option.some (Aa.bool (Decidable.decide (a < b))))))) ∧
 ((((∀ {ek : EqK} {k : IntKind} {a b : Int}, Af ek BinOp.gtr (Aa.int k a) (Aa.int k b) = Option.some (Aa.bool (Decidable.decide (a > b)))) ∧
 (∀ {ek : EqK} {k : IntKind} {a b : Int}, Af ek BinOp.leq (Aa.int k a) (Aa.int k b) = Option.some (Aa.bool (Decidable.decide (a ≤ b))))) ∧
 ((∀ {ek : EqK} {k : IntKind} {a b : Int}, Af ek BinOp.geq (Aa.int k a) (Aa.int k b) = Option.some (Aa.bool (Decidable.decide (a ≥ b)))) ∧
 (∀ {ek : EqK} {k : IntKind} {a b : Int}, Af ek BinOp.eql (Aa.int k a) (Aa.int k b) = Option.some (Aa.bool (a == b))))) ∧
 (((∀ {ek : EqK} {k : IntKind} {a b : Int}, Af ek BinOp.neq (Aa.int k a) (Aa.int k b) = Option.some (Aa.bool (a != b))) ∧
 (∀ {ek : EqK} {k : IntKind} {a b : Int}, Af ek BinOp.add (Aa.int k a) (Aa.int k b) = Option.some (Aa.int k (IntKind.wrap k (a + b))))) ∧
 ((∀ {ek : EqK} {k : IntKind} {a b : Int}, Af ek BinOp.sub (Aa.int k a) (Aa.int k b) = Option.some (Aa.int k (IntKind.wrap k (a - b)))) ∧
 ((∀ {ek : EqK} {k : IntKind} {a b : Int}, Af ek BinOp.mul (Aa.int k a) (Aa.int k b) = Option.some (Aa.int k (IntKind.wrap k (a * b)))) ∧
 (∀ (a b : Out), Am (Aa.bool Bool.true) a b = a)))))) ∧
 (((((∀ (a b : Out), Am (Aa.bool Bool.false) a b = b) ∧
 (∀ (a b : Aa), A7 (Aa.bool Bool.true) a b = Option.some a)) ∧
 ((∀ (a b : Aa), A7 (Aa.bool Bool.false) a b = Option.some b) ∧
 (∀ {kv : Aa → Out} (x : Option Aa), gk (Aa.bool Bool.true) Bool.true x kv = Option.bind x kv))) ∧
 (((∀ {kv : Aa → Out} (x : Option Aa), gk (Aa.bool Bool.false) Bool.false x kv = Option.bind x kv) ∧
 (∀ {kv : Aa → Out} (x : Option Aa), gk (Aa.bool Bool.true) Bool.false x kv = kv By)) ∧
 ((∀ {kv : Aa → Out} (x : Option Aa), gk (Aa.bool Bool.false) Bool.true x kv = kv By) ∧
 ((∀ {kv : Aa → Out} (w : Bool) (x : Option Aa), gk (Aa.tup []) w x kv = kv By) ∧
 (∀ {x : Option Aa} {p : Bool → Aa → Prop} {k : Aa → Out}, gkc (Aa.bool Bool.true) Bool.true x p k = bC x (p Bool.true) k))))) ∧
 ((((∀ {x : Option Aa} {p : Bool → Aa → Prop} {k : Aa → Out}, gkc (Aa.bool Bool.false) Bool.false x p k = bC x (p Bool.true) k) ∧
 (∀ {x : Option Aa} {p : Bool → Aa → Prop} {k : Aa → Out}, gkc (Aa.bool Bool.true) Bool.false x p k = chk (p Bool.false By) (k By))) ∧
 ((∀ {x : Option Aa} {p : Bool → Aa → Prop} {k : Aa → Out}, gkc (Aa.bool Bool.false) Bool.true x p k = chk (p Bool.false By) (k By)) ∧
 (∀ {x : Option Aa} {p : Bool → Aa → Prop} {k : Aa → Out} {w : Bool}, gkc (Aa.tup []) w x p k = chk (p Bool.false By) (k By)))) ∧
 (((∀ {v : Aa} {p : Aa → Prop} {k : Aa → Out}, bC (Option.some v) p k = chk (p v) (k v)) ∧
 (∀ {x : Out}, chk True x = x)) ∧
 ((∀ {H0 H : Ab} {k : Aa → Ab → Out} (x : Out), gbK H0 (Aa.bool Bool.true) Bool.true H x k = bK H0 x k) ∧
 ((∀ {H0 H : Ab} {k : Aa → Ab → Out} (x : Out), gbK H0 (Aa.bool Bool.false) Bool.false H x k = bK H0 x k) ∧
 (∀ {H0 H : Ab} {k : Aa → Ab → Out} (x : Out), gbK H0 (Aa.bool Bool.true) Bool.false H x k = k By H))))))) ∧
 ((((((∀ {H0 H : Ab} {k : Aa → Ab → Out} (x : Out), gbK H0 (Aa.bool Bool.false) Bool.true H x k = k By H) ∧
 (∀ {H0 H : Ab} {k : Aa → Ab → Out} (w : Bool) (x : Out), gbK H0 (Aa.tup []) w H x k = k By H)) ∧
 ((∀ {H0 H : Ab} {k : Aa → Ab → Out} (x : Out), gbP H0 (Aa.bool Bool.true) Bool.true H x k = bP H0 x k) ∧
 (∀ {H0 H : Ab} {k : Aa → Ab → Out} (x : Out), gbP H0 (Aa.bool Bool.false) Bool.false H x k = bP H0 x k))) ∧
 (((∀ {H0 H : Ab} {k : Aa → Ab → Out} (x : Out), gbP H0 (Aa.bool Bool.true) Bool.false H x k = k By H) ∧
 (∀ {H0 H : Ab} {k : Aa → Ab → Out} (x : Out), gbP H0 (Aa.bool Bool.false) Bool.true H x k = k By H)) ∧
 ((∀ {H0 H : Ab} {k : Aa → Ab → Out} (w : Bool) (x : Out), gbP H0 (Aa.tup []) w H x k = k By H) ∧
 (∀ {H : Ab} {k : Aa → Ab → Out} (x : Out), gbN (Aa.bool Bool.true) Bool.true H x k = Cg x k)))) ∧
 ((((∀ {H : Ab} {k : Aa → Ab → Out} (x : Out), gbN (Aa.bool Bool.false) Bool.false H x k = Cg x k) ∧
 (∀ {H : Ab} {k : Aa → Ab → Out} (x : Out), gbN (Aa.bool Bool.true) Bool.false H x k = k By H)) ∧
 ((∀ {H : Ab} {k : Aa → Ab → Out} (x : Out), gbN (Aa.bool Bool.false) Bool.true H x k = k By H) ∧
 (∀ {H : Ab} {k : Aa → Ab → Out} (w : Bool) (x : Out), gbN (Aa.tup []) w H x k = k By H))) ∧
 (((∀ {H : Ab} {k : Aa → Ab → Out} (v : Aa), Cg (Option.some (Res.ret v, H)) k = k v H) ∧
 (∀ {H0 H : Ab} {k : Aa → Ab → Out} (v : Aa), bK H0 (Option.some (Res.ret v, H)) k = k v H)) ∧
 ((∀ {H0 H : Ab} {k : Aa → Ab → Out} (v : Aa), bP H0 (Option.some (Res.ret v, H)) k = k v H) ∧
 ((∀ {H0 H : Ab} (v : Aa), rK H0 v H = Option.some (Res.ret v, H)) ∧
 (∀ {H H0 : Ab} {v : Aa}, rKN H0 v H = Option.some (Res.ret (forget v), H))))))) ∧
 (((((∀ {c : Bool}, unA UnOp.not (Aa.bool c) = Option.some (Aa.bool !c)) ∧
 (∀ {H : Ab} (v : Aa), retV (Option.some v) H = Option.some (Res.ret v, H))) ∧
 ((∀ {H : Ab}, AN (Option.some H) = Option.some (Res.ret Aa.undef, H)) ∧
 (∀ {H : Ab} (v : Aa), BF (Option.some (v, H)) = Option.some (Res.ret v, H)))) ∧
 (((∀ {H : Ab} {k : Aa → Ab → Out} (v : Aa), A2 (Option.some (v, H)) k = k v H) ∧
 (∀ {a b : Int}, (a == b) = decide (a = b))) ∧
 ((∀ {a b : Int}, (a != b) = !decide (a = b)) ∧
 (((!true) = false) ∧
 ((!false) = true))))) ∧
 (((((false = true) = False) ∧
 (∀ (b : Bool), (false || b) = b)) ∧
 ((∀ (b : Bool), (true || b) = true) ∧
 (∀ (b : Bool), (b || false) = b))) ∧
 (((∀ (b : Bool), (b || true) = true) ∧
 (∀ (b : Bool), (b && true) = b)) ∧
 ((∀ (b : Bool), (true && b) = b) ∧
 ((∀ (b : Bool), (b && false) = false) ∧
 (∀ (b : Bool), (false && b) = false)))))))) :=
 ⟨⟨⟨⟨⟨⟨@Bs, @AB⟩, ⟨@CW, @Ds⟩⟩, ⟨⟨@FX, @G9⟩, ⟨@Ll, @AQ⟩⟩⟩, ⟨⟨⟨@Db, @KS⟩, ⟨@KT, @D5⟩⟩, ⟨⟨@Ik, @BE⟩, ⟨@EA, ⟨@Gz, @AO⟩⟩⟩⟩⟩, ⟨⟨⟨⟨@AL, @BQ⟩, ⟨@BZ, @Iv⟩⟩, ⟨⟨@Of, @Qe⟩, ⟨@Oe, ⟨@gk_s, @Nr⟩⟩⟩⟩, ⟨⟨⟨@Nu, @Ns⟩, ⟨@Nt, @R1⟩⟩, ⟨⟨@NM, @GW⟩, ⟨@N4, ⟨@N7, @N5⟩⟩⟩⟩⟩⟩, ⟨⟨⟨⟨⟨@N6, @R4⟩, ⟨@Nv, @Ny⟩⟩, ⟨⟨@Nw, @Nx⟩, ⟨@R2, @Nz⟩⟩⟩, ⟨⟨⟨@N3, @N1⟩, ⟨@N2, @R3⟩⟩, ⟨⟨@FD, @Fv⟩, ⟨@DA, ⟨@NU, @JK⟩⟩⟩⟩⟩, ⟨⟨⟨⟨@Jo, @F8⟩, ⟨@DZ, @C8⟩⟩, ⟨⟨@BP, @EB⟩, ⟨@Ii, ⟨Bool.not_true, Bool.not_false⟩⟩⟩⟩, ⟨⟨⟨@Bool.false_eq_true, @Bool.false_or⟩, ⟨@Bool.true_or, @Bool.or_false⟩⟩, ⟨⟨@Bool.or_true, @Bool.and_true⟩, ⟨@Bool.true_and, ⟨@Bool.and_false, @Bool.false_and⟩⟩⟩⟩⟩⟩⟩
theorem GMc : ((∀ (f : (List Aa → Ab → Out) → Out) (j : List Aa → Ab → Out), AS f j = f j) ∧ (∀ h : Decidable True, @decide True h = true) ∧ (∀ h : Decidable False, @decide False h = false) ∧ (∀ (α : Type) (h : Decidable True) (t e : α), @ite α True h t e = t) ∧ (∀ (α : Type) (h : Decidable False) (t e : α), @ite α False h t e = e)) :=
 ⟨fun _ _ => rfl, fun _ => decide_true _, fun _ => decide_false _, fun _ _ _ _ => if_true _ _, fun _ _ _ _ => if_false _ _⟩
end Go.Gm
namespace Go.Gm
theorem st_cel {H : Ab} {p o : Nat} {cs : List Aa} {v : Aa} (h : H[p]? = some (.cel 0 cs)) (hv : v.isScal = true) (ho : o < cs.length) : Al 1 (.ptr p 0 o) v H = some (H.set p (.cel 0 (cs.set o v))) := by
 have hc : v.acells = some [v] := by cases v <;> first | rfl | (simp [Aa.isScal] at hv)
 simp only [Al, AY h, Bs, hc, List.length_singleton]
 rw [if_pos ⟨trivial, by omega⟩, CK h, show DQ cs o 1 [v] = cs.set o v from by rw [List.set_eq_take_append_cons_drop, if_pos ho]; simp [DQ]]
theorem st_agg {H : Ab} {p sz : Nat} {cs ws : List Aa} (h : H[p]? = some (.cel 0 cs)) (hl : cs.length = sz) (hl2 : ws.length = sz) (hs : ws.all Aa.isScal = true) : Al sz (.ptr p 0 0) (.agg ws) H = some (H.set p (.cel 0 ws)) := by
 simp only [Al, AY h, Bs, EW hs, hl, hl2, Nat.zero_add, Nat.le_refl, and_self, if_true, JM hl, CK h]
theorem ld_agg {H : Ab} {p sz : Nat} {cs : List Aa} (h : H[p]? = some (.cel 0 cs)) (hl : cs.length = sz) : Ad true sz (.ptr p 0 0) H = some (.agg cs) := by
 simp only [Ad, AY h, Bs, if_true, List.drop_zero, hl, Nat.zero_add, Nat.le_refl]
 rw [List.take_of_length_le (Nat.le_of_eq hl)]
theorem B7 {H : Ab} {p o sz : Nat} {cs : List Aa} (h : H[p]? = some (.cel 0 cs)) : Ad false sz (.ptr p 0 o) H = cs[o]? := by
 simp only [Ad, AY h, Bs]; rfl
def Q7 : Aa → Bool
 | .agg cs => cs.all Gd
 | v => Gd v
theorem plnT_frz {v : Aa} {H : Ab} {n d : Nat} (h : Q7 v = true) : frz H n (d + 3) v = some v := by
 cases v with
 | agg cs =>
  have h' : cs.all Gd = true := h
  simp only [frz, GI h', Option.map_some]
 | _ => exact plnC_frz (d := d + 2) h
theorem Rl {H : Ab} {n d : Nat} : ∀ {cs : List Aa}, cs.all Q7 = true → DT H n (d + 4) cs = some cs
 | [], _ => by simp [DT]
 | c :: cs, h => by
  simp only [List.all_cons, Bool.and_eq_true] at h
  simp [DT, plnT_frz h.1, Rl h.2]
theorem rP_aggP {H G : Ab} {cs : List Aa} (h : cs.all Gd = true) : rP H (.agg cs) (H ++ G) = some (.ret (.agg cs), H) := by
 rw [rP_eq _ (by simp)]
 simp only [frz, GI h, Option.map_some]
theorem rP_tupP {H G : Ab} {cs : List Aa} (h : cs.all Q7 = true) : rP H (.tup cs) (H ++ G) = some (.ret (.tup cs), H) := by
 rw [rP_eq _ (by simp)]
 simp only [frz, Rl h, Option.map_some]
theorem K9 {g o : Nat} {v : Aa} {cs : List Aa} {G : Ab} (hv : v.isScal = true) (h : o < cs.length) : Al 1 (.ptr 0 g o) v (.cel g cs :: G) = some (.cel g (cs.set o v) :: G) := by
 have hc : v.acells = some [v] := by cases v <;> first | rfl | (simp [Aa.isScal] at hv)
 rw [Pm, hc]
 simp only [Bs, List.length_singleton]
 rw [if_pos ⟨trivial, by omega⟩, List.set_eq_take_append_cons_drop, if_pos h]
 simp [DQ]
theorem store_agg {sz g : Nat} {cs ws : List Aa} {G : Ab} (h : cs.length = sz) (h2 : ws.length = sz) (h3 : ws.all Aa.isScal = true) : Al sz (.ptr 0 g 0) (.agg ws) (.cel g cs :: G) = some (.cel g ws :: G) := MU (EW h3) h h2
theorem app_app (a b c : Ab) : a ++ b ++ c = a ++ (b ++ c) := List.append_assoc a b c
theorem len_app (a b : Ab) : (a ++ b).length = a.length + b.length := List.length_append
theorem Cj (x : Aa) (b : List Aa) : (x :: b)[0]? = some x := (rfl)
theorem Ee (x : Aa) (b : List Aa) (i : Nat) : (x :: b)[i + 1]? = b[i]? := (rfl)
def Gq (x : Nd) : List Aa := [.int .i64 x.k0, .int .i64 x.k1, .int .i64 x.k2, .int .i64 x.k3]
theorem ld_kids (x : Nd) (H : Ab) : Ad true 4 (.cptr (cNd x) 1) H = some (.agg (Gq x)) := (rfl)
theorem ag_kid (x : Nd) {k : Nat} (hk : k < 4) (K : IntKind) : Ko false 4 1 (.agg (Gq x)) (.int K (k : Int)) = some (.int .i64 (x.kid k)) := by
 match k, hk with
 | 0, _ => rfl
 | 1, _ => rfl
 | 2, _ => rfl
 | 3, _ => rfl
theorem DH (g : Nat) (x : Nd) (G : Ab) : Ad true 4 (.ptr 0 g 1) (.cel g (cNd x) :: G) = some (.agg (Gq x)) := by
 rw [show Ad true 4 (.ptr 0 g 1) (.cel g (cNd x) :: G) = if 1 + 4 ≤ (cNd x).length then some (.agg (((cNd x).drop 1).take 4)) else none from by simp only [Ad, Kq]; rfl]
 rfl
theorem DM (x : Nd) : (cNd x).length = 5 := (rfl)
theorem HPa : (((∀ (H G : Ab) (a : Bool) (sz k g o : Nat), Ad a sz (.ptr (H.length + k) g o) (H ++ G) = Ad a sz (.ptr k g o) G) ∧
  (∀ (H G : Ab) (a : Bool) (sz g o : Nat), Ad a sz (.ptr H.length g o) (H ++ G) = Ad a sz (.ptr 0 g o) G)) ∧
  ((∀ (b : Blk) (G : Ab) (a : Bool) (sz k g o : Nat), Ad a sz (.ptr (k + 1) g o) (b :: G) = Ad a sz (.ptr k g o) G) ∧
  (∀ (cs : List Aa) (G : Ab) (sz g o : Nat), Ad false sz (.ptr 0 g o) (.cel g cs :: G) = cs[o]?) ∧
  (∀ (cs : List Aa) (G : Ab) (sz g : Nat), cs.length = sz → Ad true sz (.ptr 0 g 0) (.cel g cs :: G) = some (.agg cs)))) ∧
 (((∀ (H G : Ab) (v : Aa) (sz k g o : Nat), Al sz (.ptr (H.length + k) g o) v (H ++ G) = (Al sz (.ptr k g o) v G).map (H ++ ·)) ∧
  (∀ (H G : Ab) (v : Aa) (sz g o : Nat), Al sz (.ptr H.length g o) v (H ++ G) = (Al sz (.ptr 0 g o) v G).map (H ++ ·))) ∧
  ((∀ (b : Blk) (G : Ab) (v : Aa) (sz k g o : Nat), Al sz (.ptr (k + 1) g o) v (b :: G) = (Al sz (.ptr k g o) v G).map (b :: ·)) ∧
  (∀ (cs : List Aa) (G : Ab) (v : Aa) (g o : Nat), v.isScal = true → o < cs.length → Al 1 (.ptr 0 g o) v (.cel g cs :: G) = some (.cel g (cs.set o v) :: G)) ∧
  (∀ (cs ws : List Aa) (G : Ab) (sz g : Nat), cs.length = sz → ws.length = sz → ws.all Aa.isScal = true → Al sz (.ptr 0 g 0) (.agg ws) (.cel g cs :: G) = some (.cel g ws :: G)))) ∧
 ((∀ (cs : List Aa) (H : Ab), cs.all Aa.isScal = true → AF (some cs) H = some (.ptr H.length 0 0, H ++ [.cel 0 cs])) ∧
  (∀ (cs : List Aa) (H : Ab) (sz : Nat), cs.all Aa.isScal = true → cs.length = sz → Ek true sz (.agg cs) H = some (.ptr H.length 0 0, H ++ [.cel 0 cs]))) :=
 ⟨⟨⟨fun _ _ _ _ _ _ _ => load_app, fun _ _ _ _ _ _ => GP⟩, fun _ _ _ _ _ _ _ => load_succ, fun _ _ _ _ _ => Nk, fun _ _ _ _ h => PM h⟩,
  ⟨⟨fun _ _ _ _ _ _ _ => QR, fun _ _ _ _ _ _ => FH⟩, fun _ _ _ _ _ _ _ => store_succ, fun _ _ _ _ _ h1 h2 => K9 h1 h2, fun _ _ _ _ _ h1 h2 h3 => store_agg h1 h2 h3⟩,
  fun _ _ h => alloc_eq h, fun _ _ _ h1 h2 => Ig h1 h2⟩
theorem HPc : (((∀ (K : IntKind) (n : Int), (Aa.int K n).isScal = true) ∧ (∀ t : Bool, (Aa.bool t).isScal = true) ∧ (∀ s : List UInt8, (Aa.str s).isScal = true)) ∧
  ((∀ (es : List (List Aa)) (tk : Tok), (Aa.sl es tk).isScal = true) ∧ (∀ (id g off len cap sz : Nat) (ex : Bool), (Aa.ms id g off len cap sz ex).isScal = true) ∧ (∀ id g off : Nat, (Aa.ptr id g off).isScal = true)) ∧
  (∀ id : Nat, (Aa.mp id).isScal = true) ∧ (∀ (f : FuncId) (c : List Aa), (Aa.fn f c).isScal = true) ∧ (Aa.nilp.isScal = true) ∧ (Aa.nilmap.isScal = true) ∧ Aa.nilfn.isScal = true) ∧
 (((∀ (K : IntKind) (n : Int), Gd (Aa.int K n) = true) ∧ (∀ t : Bool, Gd (Aa.bool t) = true) ∧ (∀ s : List UInt8, Gd (Aa.str s) = true)) ∧
  ((∀ (es : List (List Aa)), Gd (Aa.sl es .no) = true) ∧ (∀ (es : List (List Aa)), Gd (Aa.sl es .tight) = true)) ∧
  ((∀ (K : IntKind) (n : Int), Q7 (Aa.int K n) = true) ∧ (∀ t : Bool, Q7 (Aa.bool t) = true) ∧ (∀ s : List UInt8, Q7 (Aa.str s) = true)) ∧
  ((∀ (es : List (List Aa)), Q7 (Aa.sl es .no) = true) ∧ (∀ (es : List (List Aa)), Q7 (Aa.sl es .tight) = true)) ∧ (∀ cs : List Aa, Q7 (.agg cs) = cs.all Gd)) ∧
 ((∀ (H G : Ab) (cs : List Aa), cs.all Gd = true → rP H (.agg cs) (H ++ G) = some (.ret (.agg cs), H)) ∧
  (∀ (H G : Ab) (cs : List Aa), cs.all Q7 = true → rP H (.tup cs) (H ++ G) = some (.ret (.tup cs), H)) ∧
  (∀ (H G : Ab) (t : Bool), rP H (.bool t) (H ++ G) = some (.ret (.bool t), H)) ∧
  (∀ (H G : Ab) (K : IntKind) (n : Int), rP H (.int K n) (H ++ G) = some (.ret (.int K n), H)) ∧
  (∀ (H G : Ab) (s : List UInt8), rP H (.str s) (H ++ G) = some (.ret (.str s), H))) :=
 ⟨⟨⟨fun _ _ => rfl, fun _ => rfl, fun _ => rfl⟩, ⟨fun _ _ => rfl, fun _ _ _ _ _ _ _ => rfl, fun _ _ _ => rfl⟩, fun _ => rfl, fun _ _ => rfl, rfl, rfl, rfl⟩,
  ⟨⟨fun _ _ => rfl, fun _ => rfl, fun _ => rfl⟩, ⟨fun _ => rfl, fun _ => rfl⟩, ⟨fun _ _ => rfl, fun _ => rfl, fun _ => rfl⟩, ⟨fun _ => rfl, fun _ => rfl⟩, fun _ => rfl⟩,
  fun _ _ _ h => rP_aggP h, fun _ _ _ h => rP_tupP h, fun _ _ _ => Mh, fun _ _ _ _ => Pv, fun _ _ _ => rP_str⟩
theorem HPd : ((∀ (H G : Ab) (v : Aa), rPN H v (H ++ G) = (Ft (H ++ G) H.length 8 v).map fun v => (.ret v, H)) ∧
  (∀ (H : Ab) (n d : Nat) (vs : List Aa), Ft H n (d + 1) (.tup vs) = (FN H n d vs).map .tup) ∧
  (∀ (H : Ab) (n d : Nat) (cs : List Aa), Ft H n (d + 1) (.agg cs) = (DU H n d cs).map .agg) ∧
  (∀ (H : Ab) (n d : Nat) (es : List (List Aa)) (tk : Tok), Ft H n (d + 1) (.sl es tk) = some (.sl es .no))) ∧
 ((∀ (H : Ab) (n d : Nat), FN H n (d + 1) [] = some []) ∧
  (∀ (H : Ab) (n d : Nat) (v : Aa) (vs : List Aa), FN H n (d + 1) (v :: vs) = (E3 H n d v).bind fun v' => (FN H n (d + 1) vs).map (v' :: ·)) ∧
  (∀ (H : Ab) (n d : Nat), DU H n (d + 1) [] = some []) ∧
  (∀ (H : Ab) (n d : Nat) (v : Aa) (vs : List Aa), DU H n (d + 1) (v :: vs) = (FP H n d v).bind fun v' => (DU H n (d + 1) vs).map (v' :: ·))) ∧
 ((∀ (H : Ab) (n d : Nat) (cs : List Aa), E3 H n (d + 1) (.agg cs) = (DU H n d cs).map .agg) ∧
  (∀ (H : Ab) (n d : Nat) (K : IntKind) (i : Int), E3 H n (d + 1) (.int K i) = some (.int K i)) ∧
  (∀ (H : Ab) (n d : Nat) (t : Bool), E3 H n (d + 1) (.bool t) = some (.bool t)) ∧
  (∀ (H : Ab) (n d : Nat) (s : List UInt8), E3 H n (d + 1) (.str s) = some (.str s)) ∧
  (∀ (H : Ab) (n d : Nat) (es : List (List Aa)) (tk : Tok), E3 H n (d + 1) (.sl es tk) = some (.sl es .no))) ∧
 ((∀ (H : Ab) (n d : Nat) (K : IntKind) (i : Int), FP H n (d + 1) (.int K i) = some (.int K i)) ∧
  (∀ (H : Ab) (n d : Nat) (t : Bool), FP H n (d + 1) (.bool t) = some (.bool t)) ∧
  (∀ (H : Ab) (n d : Nat) (s : List UInt8), FP H n (d + 1) (.str s) = some (.str s)) ∧
  (∀ (H : Ab) (n d : Nat) (es : List (List Aa)) (tk : Tok), FP H n (d + 1) (.sl es tk) = some (.sl es .no))) ∧
 ((∀ xs : List (Option Aa), La xs = (Q6 xs).map .tup) ∧ (Q6 [] = some []) ∧ (∀ (x : Option Aa) (xs : List (Option Aa)), Q6 (x :: xs) = x.bind fun v => (Q6 xs).map (v :: ·))) ∧
 ((∀ (v : Aa) (vs : List Aa), Ar 0 (.tup (v :: vs)) = some v) ∧ (∀ (v w : Aa) (vs : List Aa), Ar 1 (.tup (v :: w :: vs)) = some w) ∧ (∀ (v w u : Aa) (vs : List Aa), Ar 2 (.tup (v :: w :: u :: vs)) = some u)) :=
 ⟨⟨fun _ _ _ => DO, fun _ _ _ _ => Fh, fun _ _ _ _ => fall_agg, fun _ _ _ _ _ => KM⟩, ⟨fun _ _ _ => Dn, fun _ _ _ _ _ => C4, fun _ _ _ => HP, fun _ _ _ _ _ => Gx⟩,
  ⟨fun _ _ _ _ => KK, fun _ _ _ _ _ => Ef, fun _ _ _ _ => fpart_bool, fun _ _ _ _ => fpart_str, fun _ _ _ _ _ => Kr⟩, ⟨fun _ _ _ _ _ => fcell_int, fun _ _ _ _ => Qk, fun _ _ _ _ => fcell_str, fun _ _ _ _ _ => M7⟩,
  ⟨fun _ => rfl, rfl, fun _ _ => rfl⟩, fun _ _ => rfl, fun _ _ _ => rfl, fun _ _ _ _ => rfl⟩
theorem HPe : (∀ (H : Ab) (j k : Nat), List.length H + j + k = List.length H + (j + k)) ∧ (∀ (H0 H : Ab) (v : Aa) (k : Aa → Ab → Out), bK H0 (some (.pan v, H)) k = some (.pan v, H)) ∧ (∀ (α β : Type) (a : α) (f : α → β), Option.map f (some a) = some (f a)) ∧ (∀ id g o : Nat, Ae (.ptr id g o) = some (.ptr id g o)) ∧ (∀ off id g o : Nat, Ac off (.ptr id g o) = some (.ptr id g (o + off))) ∧
 ((∀ a b c : Ab, a ++ b ++ c = a ++ (b ++ c)) ∧ (∀ (x : Blk) (b c : Ab), (x :: b) ++ c = x :: (b ++ c)) ∧ (∀ b : Ab, ([] : Ab) ++ b = b) ∧ (∀ a b : Ab, (a ++ b).length = a.length + b.length) ∧ (∀ (x : Blk) (b : Ab), (x :: b).length = b.length + 1) ∧ (([] : Ab).length = 0)) ∧
 ((∀ (x : Aa) (b : List Aa), (x :: b).length = b.length + 1) ∧ (([] : List Aa).length = 0) ∧ (∀ (x : Aa) (b : List Aa), (x :: b)[0]? = some x) ∧ (∀ (x : Aa) (b : List Aa) (i : Nat), (x :: b)[i + 1]? = b[i]?)) ∧
 ((∀ (x y : Aa) (b : List Aa), (x :: b).set 0 y = y :: b) ∧ (∀ (x y : Aa) (b : List Aa) (i : Nat), (x :: b).set (i + 1) y = x :: b.set i y) ∧ (∀ (p : Aa → Bool) (x : Aa) (b : List Aa), (x :: b).all p = (p x && b.all p)) ∧ (∀ p : Aa → Bool, ([] : List Aa).all p = true)) ∧
 (∀ s : List UInt8, B6 (.str s) = some (.int .i64 (s.length : Int))) :=
 ⟨fun _ _ _ => Nat.add_assoc _ _ _, fun _ _ _ _ => rfl, fun _ _ _ _ => rfl, fun _ _ _ => rfl, fun _ _ _ _ => rfl, ⟨app_app, fun _ _ _ => rfl, fun _ => rfl, len_app, fun _ _ => rfl, rfl⟩, ⟨fun _ _ => rfl, rfl, fun _ _ => rfl, fun _ _ _ => rfl⟩, ⟨fun _ _ _ => rfl, fun _ _ _ _ => rfl, fun _ _ _ => rfl, fun _ => rfl⟩, fun _ => rfl⟩
theorem HPz : ((∀ n : Nat, 0 + n = n) ∧ (∀ n : Nat, n + 0 = n) ∧ (∀ p : Prop, (p ∧ p) = p) ∧ (∀ p : Prop, (p ∧ True) = p) ∧ (∀ (α : Type) (a : α), (a = a) = True) ∧ (∀ b : Bool, (b && b) = b)) :=
 ⟨Nat.zero_add, Nat.add_zero, and_self, and_true, fun _ a => eq_self a, Bool.and_self⟩
end Go.Gm
namespace Go.Gm
def BS (L : List Nd) (i : Nat) (x : Nd) (c : Int) : Bool :=
 decide (0 ≤ c) && (decide (x.lv = 1 → c ≤ 255)) && decide (1 < x.lv → 0 < c → c ≤ i ∧ ∀ y, L[(c - 1).toNat]? = some y → y.lv = x.lv - 1)
def DD (L : List Nd) (i : Nat) : Bool :=
 match L[i]? with
 | some x => decide (1 ≤ x.lv ∧ x.lv ≤ 1329) && (List.range 4).all fun k => BS L i x (x.kid k)
 | none => true
def Ao (L : List Nd) : Bool := (List.range L.length).all (DD L)
theorem Ri (L : List Nd) (tk : Tok) (H : Ab) (hL : L.length < 1152921504606846976) : Sh.fc (.sl (enL cNd L) tk) H = some (.ret (.bool (Ao L)), H) := by
 unfold Sh.fc
 rw [show Ao L = (List.range L.length).all (DD L) from rfl]
 have := DF L.length (DD L) (fun i => [.sl (enL cNd L) tk, .int .i64 (i : Int)]) H (some (.ret (.bool true), H)) (some (.ret (.bool false), H)) hL (fun rec i hi => ?_) (fun rec => ?_)
  (G := fun rec1 vs H1 => Sh.f3e H rec1 (ag vs 0) (ag vs 1) H1)
 ·refine this.trans ?_
  cases (List.range L.length).all (DD L) <;> rfl
 ·have hx : (i : Int) < (L.length : Int) := by omega
  have hg : L[i]? = some L[i] := List.getElem?_eq_getElem hi
  unfold Sh.f3e
  simp only [AB, CW, A3, Bs, AQ, hx, decide_true, AO, Av hi, Ah, Au, Nat.add_zero, Bl]
  by_cases h1 : L[i].lv < 1
  ·have : DD L i = false := by simp only [DD, hg]; simp; intro; omega
   simp [h1, this]
  ·by_cases h2 : L[i].lv > 1329
   ·have : DD L i = false := by simp only [DD, hg]; simp; intro; omega
    simp [h1, h2, this, Av hi]
   ·have hd : DD L i = (List.range 4).all fun k => BS L i L[i] (L[i].kid k) := by
     simp only [DD, hg]; rw [decide_eq_true (by omega)]; rfl
    simp only [h1, h2, decide_false, Of, Bs, Db, BZ, AL, hd, Au, Nat.add_zero, Bl, Ah, Av hi]
    have := DF 4 (fun k => BS L i L[i] (L[i].kid k)) (fun k => [.sl (enL cNd L) tk, .int .i64 (i : Int), .int .i64 (k : Int)]) H (rec [.sl (enL cNd L) tk, .int .i64 ((i + 1 : Nat) : Int)] H) (some (.ret (.bool false), H)) (by decide) (fun rec2 k hk => ?_) (fun rec2 => ?_)
     (G := fun rec2 vs H1 => Sh.f3d H rec rec2 (ag vs 0) (ag vs 1) (ag vs 2) H1)
    ·exact this
    ·have hk' : (k : Int) < 4 := by omega
     unfold Sh.f3d
     simp only [AB, CW, Ds, Bs, AQ, hk', decide_true, AO, Av hi, Ah, CC hk, Au, Nat.zero_add, Nat.mul_one, C0 hk, Bl, Aw (show k < 9223372036854775807 by omega), BE, D5, Db]
     generalize L[i].kid k = c
     generalize hx' : L[i] = x at h1 h2 ⊢
     by_cases hc : c < 0
     ·have : BS L i x c = false := by simp [BS]; omega
      simp [hc, this, Av hi, hx']
     ·obtain ⟨n, rfl⟩ := Int.eq_ofNat_of_zero_le (show 0 ≤ c by omega)
      by_cases hl : x.lv = 1
      ·by_cases h255 : 255 < n
       ·have : BS L i x n = false := by simp [BS, hl]; omega
        have h256 : (255 : Int) < n := by omega
        simp [hc, hl, h255, h256, this, Av hi, hx']
       ·have : BS L i x n = true := by simp [BS, hl]; omega
        have h256 : ¬ (255 : Int) < n := by omega
        simp [hc, hl, h255, h256, this, Av hi, hx']
      ·have hl1 : 1 < x.lv := by omega
       by_cases hn : 0 < n
       ·by_cases hni : i < n
        ·have : BS L i x n = false := by
          unfold BS
          rw [Bool.and_eq_false_iff]; right
          rw [decide_eq_false_iff_not]; intro h; have := (h hl1 (by omega)).1; omega
         simp [hc, hl, hl1, hn, hni, this, Av hi, hx']
        ·have hlt : n - 1 < L.length := by omega
         have e1 : ((n : Int) - 1).toNat = n - 1 := by omega
         have hk2 : BS L i x n = decide (L[n - 1].lv = x.lv - 1) := by
          unfold BS
          rw [e1, List.getElem?_eq_getElem hlt, Bool.eq_iff_iff]
          simp only [Bool.and_eq_true, decide_eq_true_eq, Option.some.injEq, forall_eq']
          constructor
          ·intro h; exact (h.2 hl1 (by omega)).2
          ·intro h; exact ⟨⟨by omega, by omega⟩, fun _ _ => ⟨by omega, h⟩⟩
         have hw : IntKind.i64.wrap (x.lv - 1) = x.lv - 1 := A0 (by omega) (by omega)
         simp [hc, hl, hl1, hn, hni, hk2, Du (show 0 < n by omega) (by omega), Av hlt, Av hi, hx', hw]
         by_cases he : L[n - 1].lv = x.lv - 1 <;> simp [he]
       ·have : BS L i x n = true := by
         unfold BS
         simp only [Bool.and_eq_true, decide_eq_true_eq]
         exact ⟨⟨by omega, by omega⟩, fun _ _ => by omega⟩
        simp [hc, hl, hl1, hn, this, Av hi, hx']
    ·unfold Sh.f3d
     simp [Aw (show i < 9223372036854775807 by omega)]
 ·unfold Sh.f3e
  simp
end Go.Gm
namespace Go.Gm
theorem Ax {L : List Nd} (h : Ao L = true) {i : Nat} (hi : i < L.length) : 1 ≤ L[i].lv ∧ L[i].lv ≤ 1329 ∧ ∀ k, k < 4 → 0 ≤ L[i].kid k ∧ (L[i].lv = 1 → L[i].kid k ≤ 255) ∧ (1 < L[i].lv → 0 < L[i].kid k → L[i].kid k ≤ i ∧ ∀ y, L[(L[i].kid k - 1).toNat]? = some y → y.lv = L[i].lv - 1) := by
 have h1 := List.all_eq_true.1 h i (by simpa using hi)
 simp only [DD, List.getElem?_eq_getElem hi, Bool.and_eq_true, decide_eq_true_eq, List.all_eq_true] at h1
 refine ⟨h1.1.1, h1.1.2, fun k hk => ?_⟩
 have h2 := h1.2 k (by simpa using hk)
 simp only [BS, Bool.and_eq_true, decide_eq_true_eq] at h2
 exact ⟨h2.1.1, h2.1.2, h2.2⟩
def Kv (E : List Bool) (x : Nd) : Bool := (List.range 4).all fun k => decide (x.kid k = 0) || (decide (1 < x.lv) && E.getD (x.kid k).toNat true)
def Aq (L : List Nd) : List Bool := L.foldl (fun E x => E ++ [Kv E x]) [true]
theorem FC (L : List Nd) (x : Nd) : Aq (L ++ [x]) = Aq L ++ [Kv (Aq L) x] := by simp [Aq]
theorem BN (L : List Nd) : (Aq L).length = L.length + 1 := by
 rcases L8 L with rfl | ⟨l, a, rfl⟩
 ·rfl
 ·rw [FC]; have := BN l; simp [this]
termination_by L.length
decreasing_by (subst_vars; simp)
theorem RE (L : List Nd) {i : Nat} (hi : i < L.length) : Aq (L.take (i + 1)) = Aq (L.take i) ++ [Kv (Aq (L.take i)) L[i]] := by
 rw [List.take_succ_eq_append_getElem hi, FC]
theorem Gk (L : List Nd) (tk : Tok) (H : Ab) (hL : L.length < 140737488355327) (hl : Ao L = true) : Sh.f5 (.sl (enL cNd L) tk) H = some (.ret (.sl (enL cB (Aq L)) .no), H) := by
 have hmk := FA (f := cB) (a := false) (n := L.length + 1) (bytes := 1) (H := H) (by omega) (by omega)
 have hid := Ew (sz := 1) (id := H.length) (n := L.length + 1) (K := .i64) (g := 0) (off := 0) (cap := L.length + 1) (ex := true) (i := 0) (by omega)
 have hst := FG (f := cB) (sz := 1) (l := List.replicate (L.length + 1) false) (i := 0) (a := true) (v := .bool true) (H := H ++ [.cel 0 (flat cB (List.replicate (L.length + 1) false))]) (id := H.length) (by simp) (by simp) rfl
 unfold Sh.f5
 simp only [A3, Bs, BE, Aw (show L.length < 9223372036854775807 by omega), hmk, BP]
 simp only [Nat.zero_mul, Nat.add_zero] at hid
 rw [show ((0 : Nat) : Int) = 0 from rfl] at hid
 simp only [Nat.zero_mul] at hst
 rw [hid]
 simp only [Bs, hst, DZ, DA, QZ, QX]
 have key := Cp (G := fun rec1 vs H1 => Sh.f3g H rec1 (ag vs 0) (ag vs 1) (ag vs 2) H1) L.length (fun i => [.sl (enL cNd L) tk, .ms H.length 0 0 (L.length + 1) (L.length + 1) 1 true, .int .i64 (i : Int)]) (fun i => H ++ [.cel 0 (flat cB (Aq (L.take i) ++ List.replicate (L.length - i) false))]) (some (.ret (.sl (enL cB (Aq L)) .no), H)) (by omega) (fun rec i hi => ?_) (fun rec => ?_)
 ·have e : (List.replicate (L.length + 1) false).set 0 true = Aq (L.take 0) ++ List.replicate (L.length - 0) false := by simp [List.replicate_succ, Aq]
  rw [e]; exact key
 ·have hi' : (i : Int) < (L.length : Int) := by omega
  obtain ⟨l1, l2, l3⟩ := Ax hl hi
  have hEl : (Aq (L.take i)).length = i + 1 := by rw [BN]; simp; omega
  unfold Sh.f3g
  simp only [AB, CW, Ds, A3, Bs, AQ, hi', decide_true, AO]
  have hs : ∀ k, k < 4 → 1 < L[i].lv → (Aq (L.take i) ++ List.replicate (L.length - i) false).getD (L[i].kid k).toNat true = (Aq (L.take i)).getD (L[i].kid k).toNat true := by
   intro k hk h1
   obtain ⟨q1, q2, q3⟩ := l3 k hk
   have : (L[i].kid k).toNat < (Aq (L.take i)).length := by
    rw [hEl]
    by_cases h0 : 0 < L[i].kid k
    ·have := (q3 h1 h0).1; omega
    ·omega
   simp only [List.getD_eq_getElem?_getD, List.getElem?_append_left this]
  have hb : ∀ k, k < 4 → 1 < L[i].lv → (L[i].kid k).toNat < L.length + 1 := by
   intro k hk h1
   obtain ⟨q1, q2, q3⟩ := l3 k hk
   by_cases h0 : 0 < L[i].kid k
   ·have := (q3 h1 h0).1; omega
   ·omega
  have hEs : Kv (Aq (L.take i)) L[i] = (List.range 4).all fun k => decide (L[i].kid k = 0) || (decide (1 < L[i].lv) && (Aq (L.take i) ++ List.replicate (L.length - i) false).getD (L[i].kid k).toNat true) := by
   unfold Kv
   rw [Fp, Fp]
   by_cases h1 : 1 < L[i].lv
   ·simp only [hs 0 (by omega) h1, hs 1 (by omega) h1, hs 2 (by omega) h1, hs 3 (by omega) h1]
   ·simp only [h1, decide_false, Bool.false_and]
  have hset : (Aq (L.take i) ++ List.replicate (L.length - i) false).set (i + 1) (Kv (Aq (L.take i)) L[i]) = Aq (L.take (i + 1)) ++ List.replicate (L.length - (i + 1)) false := by
   rw [RE L hi, List.set_append_right _ _ (by omega), hEl, Nat.sub_self, show L.length - i = (L.length - (i + 1)) + 1 from by omega, List.replicate_succ, List.set_cons_zero]
   simp
  have hlen : (Aq (L.take i) ++ List.replicate (L.length - i) false).length = L.length + 1 := by simp [hEl]; omega
  rw [← hset, hEs]
  generalize Aq (L.take i) ++ List.replicate (L.length - i) false = E at hlen
  generalize hx : L[i] = x at l1 l2 l3 hb
  have hgc : A4 (H ++ [.cel 0 (flat cB E)]) H.length 0 = some (flat cB E) := by simp
  refine Cp (G := fun rec2 vs H1 => Sh.f3f H rec rec2 (ag vs 0) (ag vs 1) (ag vs 2) (ag vs 3) (ag vs 4) H1) 4 (fun k => [.sl (enL cNd L) tk, .ms H.length 0 0 (L.length + 1) (L.length + 1) 1 true, .int .i64 (i : Int), .bool ((List.range k).all fun k => decide (x.kid k = 0) || (decide (1 < x.lv) && E.getD (x.kid k).toNat true)), .int .i64 (k : Int)]) (fun _ => H ++ [.cel 0 (flat cB E)]) _ (by decide) (fun rec2 k hk => ?_) (fun rec2 => ?_)
  ·have hk' : (k : Int) < 4 := by omega
   obtain ⟨q1, q2, q3⟩ := l3 k hk
   have hb' := hb k hk
   unfold Sh.f3f
   have hsucc : ((List.range (k + 1)).all fun k => decide (x.kid k = 0) || (decide (1 < x.lv) && E.getD (x.kid k).toNat true)) = (((List.range k).all fun k => decide (x.kid k = 0) || (decide (1 < x.lv) && E.getD (x.kid k).toNat true)) && (decide (x.kid k = 0) || (decide (1 < x.lv) && E.getD (x.kid k).toNat true))) := by
    rw [List.range_succ, List.all_append]; simp
   rw [hsucc]
   generalize ((List.range k).all fun k => decide (x.kid k = 0) || (decide (1 < x.lv) && E.getD (x.kid k).toNat true)) = e
   simp only [AB, CW, Ds, FX, G9, Bs, AQ, hk', decide_true, AO, Av hi, hx, Ah, CC hk, Au, Nat.zero_add, Nat.mul_one, C0 hk, Bl, Aw (show k < 9223372036854775807 by omega), BE, D5, Db]
   obtain ⟨n, hn⟩ := Int.eq_ofNat_of_zero_le q1
   rw [hn] at hb' ⊢
   simp only [Int.toNat_natCast] at hb' ⊢
   cases e with
   | false => simp
   | true =>
    by_cases h0 : n = 0
    ·subst h0; simp
    ·by_cases h1 : 1 < x.lv
     ·have hnE : n < E.length := by rw [hlen]; exact hb' h1
      have hid2 := Ew (sz := 1) (id := H.length) (n := L.length + 1) (K := .i64) (g := 0) (off := 0) (cap := L.length + 1) (ex := true) (i := n) (hb' h1)
      simp only [Nat.zero_add, Nat.mul_one] at hid2
      have hld := HJ (f := cB) hgc hnE
      simp [h0, h1, hx, Av hi, hid2, hld, List.getElem?_eq_getElem hnE]
     ·simp [h0, h1, hx, Av hi]
  ·have hid2 := Ew (sz := 1) (id := H.length) (n := L.length + 1) (K := .i64) (g := 0) (off := 0) (cap := L.length + 1) (ex := true) (i := i + 1) (by omega)
   simp only [Nat.zero_add, Nat.mul_one] at hid2
   have hst2 := FG (f := cB) (sz := 1) (l := E) (i := i + 1) (a := (List.range 4).all fun k => decide (x.kid k = 0) || (decide (1 < x.lv) && E.getD (x.kid k).toNat true)) (H := H ++ [.cel 0 (flat cB E)]) (id := H.length) hgc (by omega) (v := .bool ((List.range 4).all fun k => decide (x.kid k = 0) || (decide (1 < x.lv) && E.getD (x.kid k).toNat true))) rfl
   simp only [Nat.mul_one] at hst2
   unfold Sh.f3f
   have hf : ¬ (((4 : Nat) : Int) < 4) := by decide
   simp only [AB, CW, Ds, FX, G9, Bs, AQ, hf, decide_false, AL, BE, Aw (show i < 9223372036854775807 by omega), hid2, hst2, DZ, DA, QZ, QX]
 ·unfold Sh.f3g
  have hgc : A4 (H ++ [.cel 0 (flat cB (Aq L))]) H.length 0 = some (flat cB (Aq L)) := by simp
  have hfa := fall_ms (f := cB) (b := H.length) (d := 5) (cap := L.length + 1) (ex := true) hgc (Nat.le_refl _)
  rw [BN] at hfa
  have ht : L.take L.length = L := List.take_of_length_le (Nat.le_refl _)
  simp only [AB, CW, Ds, A3, Bs, AQ, Int.lt_irrefl, decide_false, AL, ht, Nat.sub_self, List.replicate_zero, List.append_nil, DO, hfa, Option.map_some]
theorem Rj (L : List Nd) (tk : Tok) (n : Nat) (H : Ab) (hL : L.length < 140737488355327) (hl : Ao L = true) (hn : n ≤ L.length) : Sh.f2c (.sl (enL cNd L) tk) (.int .i64 (n : Int)) H = some (.ret (.bool ((Aq L).getD n true)), H) := by
 have hlt : n < (Aq L).length := by rw [BN]; omega
 unfold Sh.f2c
 simp [Gk L tk H hL hl, Av hlt, List.getD_eq_getElem?_getD, List.getElem?_eq_getElem hlt]
end Go.Gm
namespace Go.Gm
def Ak (L : List Nd) (c : Int) : Nd := L.getD (c - 1).toNat ⟨0, 0, 0, 0, 0⟩
def M3 (L : List Nd) (E : List Bool) (x : Nd) (k j : Nat) : Bool :=
 decide (j = 3 - k) || (if x.lv = 2 then decide ((Ak L (x.kid k)).kid j = 0) else E.getD ((Ak L (x.kid k)).kid j).toNat true)
def hol (L : List Nd) (E : List Bool) (x : Nd) : Bool :=
 (List.range 4).all fun k => decide (x.kid k = 0) || (List.range 4).all (M3 L E x k)
def Ct (L : List Nd) (n : Nat) : Bool :=
 decide (n ≠ 0) && decide (2 ≤ (Ak L n).lv) && hol L (Aq L) (Ak L n)
theorem B9 {L : List Nd} {c : Int} {n : Nat} (hc : c = ((n + 1 : Nat) : Int)) (h : n < L.length) : Ak L c = L[n] := by
 have : (c - 1).toNat = n := by omega
 unfold Ak; rw [this, List.getD_eq_getElem?_getD, List.getElem?_eq_getElem h]; rfl
theorem Px (L : List Nd) (tk : Tok) (n : Nat) (H : Ab) (hL : L.length < 140737488355327) (hl : Ao L = true) (hn : n ≤ L.length) : Sh.fq (.sl (enL cNd L) tk) (.int .i64 (n : Int)) H = some (.ret (.bool (Ct L n)), H) := by
 unfold Sh.fq Ct
 cases n with
 | zero => simp
 | succ n =>
  have hi : n < L.length := hn
  have e0 : ¬ ((n + 1 : Nat) : Int) = 0 := by omega
  obtain ⟨l1, l2, l3⟩ := Ax hl hi
  rw [B9 rfl hi]
  generalize hx : L[n] = x at l1 l2 l3
  have hw : IntKind.i64.wrap (((n + 1 : Nat) : Int) - 1) = (n : Int) := by rw [A0] <;> omega
  simp only [D5, EB, e0, decide_false, Bs, Of, EA, hw, Av hi, hx, Ah, Au, Nat.add_zero, Bl, AQ, BZ]
  by_cases h2 : x.lv < 2
  ·have : ¬ 2 ≤ x.lv := by omega
   simp [h2, this]
  ·have h2' : 2 ≤ x.lv := by omega
   simp only [h2, h2', decide_false, AL, Gk L tk H hL hl, Fv, decide_true, ne_eq, Nat.succ_ne_zero, not_false_eq_true, Bool.true_and]
   have key := DF (G := fun rec1 vs H1 => Sh.f3h H rec1 (ag vs 0) (ag vs 1) (ag vs 2) (ag vs 3) H1) 4 (fun k => decide (x.kid k = 0) || (List.range 4).all (M3 L (Aq L) x k))
    (fun k => [.sl (enL cNd L) tk, .int .i64 ((n + 1 : Nat) : Int), .sl (enL cB (Aq L)) .no, .int .i64 (k : Int)]) H (some (.ret (.bool true), H)) (some (.ret (.bool false), H)) (by decide) (fun rec k hk => ?_) (fun rec => ?_)
   ·refine key.trans ?_
    rw [show hol L (Aq L) x = (List.range 4).all fun k => decide (x.kid k = 0) || (List.range 4).all (M3 L (Aq L) x k) from rfl]
    cases (List.range 4).all fun k => decide (x.kid k = 0) || (List.range 4).all (M3 L (Aq L) x k) <;> rfl
   ·have hk' : (k : Int) < 4 := by omega
    obtain ⟨q1, q2, q3⟩ := l3 k hk
    unfold Sh.f3h
    simp only [AB, CW, Ds, FX, Bs, AQ, hk', decide_true, AO, EA, hw, Av hi, hx, Ah, CC hk, Au, Nat.zero_add, Nat.mul_one, C0 hk]
    have hws : IntKind.i64.wrap ((k : Int) + 1) = ((k + 1 : Nat) : Int) := Aw (by omega)
    by_cases hc : x.kid k = 0
    ·rw [Ro fuel_pos]
     unfold Sh.f2m
     simp only [hc, decide_true, Bool.true_or, if_true, AB, CW, Ds, FX, G9, Ll, AQ, Bs, show ((0 : Int) < 4) from by decide, Iv, Db, show ¬ ((0 : Int) > 0) from by decide, decide_false, BQ, AL, BE, hws]
    ·obtain ⟨m, hm⟩ : ∃ m : Nat, x.kid k = ((m + 1 : Nat) : Int) := ⟨(x.kid k - 1).toNat, by omega⟩
     have h1 : 1 < x.lv := by omega
     obtain ⟨r1, r2⟩ := q3 h1 (by omega)
     have hmn : m < n := by omega
     have hml : m < L.length := by omega
     have hy := r2 L[m] (by rw [show (x.kid k - 1).toNat = m from by omega]; exact List.getElem?_eq_getElem hml)
     obtain ⟨y1, y2, y3⟩ := Ax hl hml
     have hE : ∀ j, j < 4 → 2 < x.lv → (L[m].kid j).toNat < (Aq L).length := by
      intro j hj h3
      obtain ⟨s1, s2, s3⟩ := y3 j hj
      rw [BN]
      by_cases h0 : 0 < L[m].kid j
      ·have := (s3 (by omega) h0).1; omega
      ·omega
     have hp : M3 L (Aq L) x k = fun j => decide (j = 3 - k) || (if x.lv = 2 then decide (L[m].kid j = 0) else (Aq L).getD (L[m].kid j).toNat true) := by
      funext j; unfold M3; rw [B9 hm hml]
     have hwm : IntKind.i64.wrap (((m + 1 : Nat) : Int) - 1) = (m : Int) := by rw [A0] <;> omega
     have hc' : ¬ ((m + 1 : Nat) : Int) = 0 := by omega
     simp only [hp, hm, hc', decide_false, Bool.false_or]
     generalize hyy : L[m] = y at y1 y2 y3 hy hE
     refine DF (G := fun rec2 vs H1 => Sh.f2m H rec rec2 (ag vs 0) (ag vs 1) (ag vs 2) (ag vs 3) (ag vs 4) (ag vs 5) H1) 4 _
      (fun j => [.sl (enL cNd L) tk, .int .i64 ((n + 1 : Nat) : Int), .sl (enL cB (Aq L)) .no, .int .i64 (k : Int), .int .i64 ((m + 1 : Nat) : Int), .int .i64 (j : Int)]) H _ _ (by decide) (fun rec2 j hj => ?_) (fun rec2 => ?_)
     ·have hj' : (j : Int) < 4 := by omega
      have hm0 : ((m + 1 : Nat) : Int) > 0 := by omega
      have hw3 : IntKind.i64.wrap (3 - (k : Int)) = 3 - (k : Int) := A0 (by omega) (by omega)
      have hjs : IntKind.i64.wrap ((j : Int) + 1) = ((j + 1 : Nat) : Int) := Aw (by omega)
      obtain ⟨s1, s2, s3⟩ := y3 j hj
      have hE' := hE j hj
      unfold Sh.f2m
      simp only [AB, CW, Ds, FX, G9, Ll, AQ, Bs, hj', decide_true, Iv, Db, hm0, BQ, AO, EA, hw, hwm, hw3, Av hml, hyy, Av hi, hx, Ah, CC hj, Au, Nat.zero_add, Nat.add_zero, Nat.mul_one, C0 hj, Bl, Ik, Ii, D5, EB, BE, hjs]
      obtain ⟨g, hg⟩ := Int.eq_ofNat_of_zero_le s1
      rw [hg] at hE' ⊢
      simp only [Int.toNat_natCast] at hE' ⊢
      by_cases h3k : j = 3 - k
      ·have h3 : (j : Int) = 3 - (k : Int) := by omega
       simp only [Bs, AB, CW, Ds, FX, G9, Ll, AQ, Db, KS, KT, D5, Ik, EB, Ii, BE, EA, Gz, AO, AL, BQ, BZ, Iv, Of, Qe, Oe, gk_s, Nr, Nu, Ns, Nt, R1, NM, GW, N4, N7, N5, N6, R4, Nv, Ny, Nw, Nx, R2, Nz, N3, N1, N2, R3, FD, AS, decide_true, decide_false, Bool.not_true, Bool.not_false, Fv, DA, NU, JK, Jo, if_true, Bool.false_eq_true, if_false, F8, DZ, C8, BP, Bool.false_or, Bool.true_or, Bool.or_false, Bool.or_true, decide_eq_true h3, decide_eq_true h3k, Bool.true_or]
      ·have h3 : ¬ (j : Int) = 3 - (k : Int) := by omega
       simp only [h3k, h3, GMb, GMc, Ah, Aj, Au, Nat.zero_add, Nat.add_zero, Nat.mul_one, Bl, Bool.false_or]
       by_cases hx2 : x.lv = 2
       ·have hx3 : ¬ (2 : Int) > 2 := by decide
        by_cases hg0 : (g : Int) = 0
        ·simp only [Bs, AB, CW, Ds, FX, G9, Ll, AQ, Db, KS, KT, D5, Ik, EB, Ii, BE, EA, Gz, AO, AL, BQ, BZ, Iv, Of, Qe, Oe, gk_s, Nr, Nu, Ns, Nt, R1, NM, GW, N4, N7, N5, N6, R4, Nv, Ny, Nw, Nx, R2, Nz, N3, N1, N2, R3, FD, AS, decide_true, decide_false, Bool.not_true, Bool.not_false, Fv, DA, NU, JK, Jo, if_true, Bool.false_eq_true, if_false, F8, DZ, C8, BP, Bool.false_or, Bool.true_or, Bool.or_false, Bool.or_true, Ah, Aj, Au, Nat.zero_add, Nat.add_zero, Nat.mul_one, Bl, hw, Av hi, hx, hx2, hg0, hx3]
        ·simp only [Bs, AB, CW, Ds, FX, G9, Ll, AQ, Db, KS, KT, D5, Ik, EB, Ii, BE, EA, Gz, AO, AL, BQ, BZ, Iv, Of, Qe, Oe, gk_s, Nr, Nu, Ns, Nt, R1, NM, GW, N4, N7, N5, N6, R4, Nv, Ny, Nw, Nx, R2, Nz, N3, N1, N2, R3, FD, AS, decide_true, decide_false, Bool.not_true, Bool.not_false, Fv, DA, NU, JK, Jo, if_true, Bool.false_eq_true, if_false, F8, DZ, C8, BP, Bool.false_or, Bool.true_or, Bool.or_false, Bool.or_true, Ah, Aj, Au, Nat.zero_add, Nat.add_zero, Nat.mul_one, Bl, hw, Av hi, hx, hx2, hg0, hx3]
       ·have hx3 : x.lv > 2 := by omega
        have hlt := hE' hx3
        have hgd : (Aq L).getD g true = (Aq L)[g] := by rw [List.getD_eq_getElem?_getD, List.getElem?_eq_getElem hlt]; rfl
        simp only [Bs, AB, CW, Ds, FX, G9, Ll, AQ, Db, KS, KT, D5, Ik, EB, Ii, BE, EA, Gz, AO, AL, BQ, BZ, Iv, Of, Qe, Oe, gk_s, Nr, Nu, Ns, Nt, R1, NM, GW, N4, N7, N5, N6, R4, Nv, Ny, Nw, Nx, R2, Nz, N3, N1, N2, R3, FD, AS, decide_true, decide_false, Bool.not_true, Bool.not_false, Fv, DA, NU, JK, Jo, if_true, Bool.false_eq_true, if_false, F8, DZ, C8, BP, Bool.false_or, Bool.true_or, Bool.or_false, Bool.or_true, Ah, Aj, Au, Nat.zero_add, Nat.add_zero, Nat.mul_one, Bl, hw, Av hi, hx, hx2, hx3, Av hlt, hgd, List.getElem?_cons_zero]
        cases (Aq L)[g] <;> simp only [Bs, AB, CW, Ds, FX, G9, Ll, AQ, Db, KS, KT, D5, Ik, EB, Ii, BE, EA, Gz, AO, AL, BQ, BZ, Iv, Of, Qe, Oe, gk_s, Nr, Nu, Ns, Nt, R1, NM, GW, N4, N7, N5, N6, R4, Nv, Ny, Nw, Nx, R2, Nz, N3, N1, N2, R3, FD, AS, decide_true, decide_false, Bool.not_true, Bool.not_false, Fv, DA, NU, JK, Jo, if_true, Bool.false_eq_true, if_false, F8, DZ, C8, BP, Bool.false_or, Bool.true_or, Bool.or_false, Bool.or_true]
     ·have hf : ¬ (((4 : Nat) : Int) < 4) := by decide
      unfold Sh.f2m
      simp only [AB, CW, Ds, FX, G9, Ll, AQ, Bs, hf, decide_false, Oe, Qe, BZ, AL, BE, hws]
   ·have hf : ¬ (((4 : Nat) : Int) < 4) := by decide
    unfold Sh.f3h
    simp only [AB, CW, Ds, FX, AQ, Bs, hf, decide_false, AL, NU]
theorem q05_inner (L : List Nd) (tk : Tok) (n k : Nat) (H : Ab) (hL : L.length < 140737488355327) (hl : Ao L = true) (hn : n < L.length) (h2 : 2 ≤ L[n].lv) (hk : k < 4) :
  Sh.f2d (.sl (enL cNd L) tk) (.int .i64 ((n + 1 : Nat) : Int)) (.int .i64 (k : Int)) H = some (.ret (.int .i64 (if L[n].kid k = 0 then 0 else (Ak L (L[n].kid k)).kid (3 - k))), H) := by
 obtain ⟨l1, l2, l3⟩ := Ax hl hn
 obtain ⟨q1, q2, q3⟩ := l3 k hk
 have hw : IntKind.i64.wrap (((n + 1 : Nat) : Int) - 1) = (n : Int) := by rw [A0] <;> omega
 unfold Sh.f2d
 simp only [EA, Bs, hw, Av hn, Ah, CC hk, Au, Nat.zero_add, Nat.mul_one, C0 hk, D5, EB]
 by_cases hc : L[n].kid k = 0
 ·simp [hc]
 ·obtain ⟨m, hm⟩ : ∃ m : Nat, L[n].kid k = ((m + 1 : Nat) : Int) := ⟨(L[n].kid k - 1).toNat, by omega⟩
  obtain ⟨r1, r2⟩ := q3 (by omega) (by omega)
  have hml : m < L.length := by omega
  have hwm : IntKind.i64.wrap (((m + 1 : Nat) : Int) - 1) = (m : Int) := by rw [A0] <;> omega
  have hw3 : IntKind.i64.wrap (3 - (k : Int)) = ((3 - k : Nat) : Int) := by rw [A0] <;> omega
  simp only [hc, decide_false, AL, if_false, B9 hm hml]
  rw [hm]
  simp only [hwm, hw3, Bs, Av hml, Ah, Nat.zero_add, CC (show 3 - k < 4 by omega), Au, Nat.mul_one, C0 (show 3 - k < 4 by omega), NU]
end Go.Gm
namespace Go.Gm
def Ku (rec : Nat → List Nat → List Nat) (x : Nd) (k : Nat) (out : List Nat) : List Nat :=
 (List.range k).foldl (fun o k => if 1 < x.lv ∧ 0 < x.kid k then rec (x.kid k).toNat o else o) out
def DV (L : List Nd) : Nat → Nat → List Nat → List Nat
 | 0, _, out => out
 | v + 1, n, out => if n ∈ out then out else Ku (DV L v) (Ak L n) 4 out ++ [n]
def L1 (N : Nat) (out : List Nat) : Prop := out.Nodup ∧ ∀ x ∈ out, 1 ≤ x ∧ x ≤ N
theorem KD : ∀ (N : Nat) (out : List Nat), L1 N out → out.length ≤ N
 | 0, out, h => by
  cases out with
  | nil => simp
  | cons a l => have := h.2 a (by simp); omega
 | N + 1, out, h => by
  have h1 : L1 N (out.erase (N + 1)) := ⟨h.1.erase _, fun x hx => by
   have := (h.1.mem_erase_iff).1 hx
   have := h.2 x this.2
   omega⟩
  have := KD N _ h1
  rw [List.length_erase] at this
  split at this <;> omega
theorem NC (rec : Nat → List Nat → List Nat) (x : Nd) (k : Nat) (out : List Nat) : Ku rec x (k + 1) out = if 1 < x.lv ∧ 0 < x.kid k then rec (x.kid k).toNat (Ku rec x k out) else Ku rec x k out := by
 simp [Ku, List.range_succ]
theorem Kt {rec : Nat → List Nat → List Nat} {x : Nd} {out : List Nat} (P : List Nat → Prop) (h0 : P out) (hs : ∀ k o, k < 4 → 1 < x.lv → 0 < x.kid k → P o → P (rec (x.kid k).toNat o)) : ∀ k, k ≤ 4 → P (Ku rec x k out)
 | 0, _ => h0
 | k + 1, h => by
  rw [NC]
  split
  ·rename_i hc; exact hs k _ (by omega) hc.1 hc.2 (Kt P h0 hs k (by omega))
  ·exact Kt P h0 hs k (by omega)
theorem A1 {L : List Nd} {n : Nat} (h : n < L.length) : Ak L ((n + 1 : Nat) : Int) = L[n] := B9 rfl h
theorem OS {L : List Nd} (hl : Ao L = true) : ∀ (v n : Nat) (out : List Nat), 1 ≤ n → n ≤ L.length → L1 L.length out → L1 L.length (DV L v n out) ∧ (∀ x ∈ out, x ∈ DV L v n out) ∧ ∀ x ∈ DV L v n out, x ∈ out ∨ x ≤ n
 | 0, n, out, h1, h2, ho => ⟨ho, fun x hx => hx, fun x hx => .inl hx⟩
 | v + 1, n, out, h1, h2, ho => by
  obtain ⟨m, rfl⟩ : ∃ m, n = m + 1 := ⟨n - 1, by omega⟩
  have hm : m < L.length := by omega
  obtain ⟨l1, l2, l3⟩ := Ax hl hm
  simp only [DV]
  split
  ·exact ⟨ho, fun x hx => hx, fun x hx => .inl hx⟩
  ·rename_i hn
   rw [A1 hm]
   have key := Kt (rec := DV L v) (x := L[m]) (out := out) (fun o => L1 L.length o ∧ (∀ x ∈ out, x ∈ o) ∧ ∀ x ∈ o, x ∈ out ∨ x ≤ m) ⟨ho, fun x hx => hx, fun x hx => .inl hx⟩ (fun k o hk hlv hkid hP => by
    obtain ⟨q1, q2, q3⟩ := l3 k hk
    have := (q3 hlv hkid).1
    obtain ⟨r1, r2, r3⟩ := OS hl v (L[m].kid k).toNat o (by omega) (by omega) hP.1
    exact ⟨r1, fun x hx => r2 x (hP.2.1 x hx), fun x hx => by
     rcases r3 x hx with h | h
     ·exact hP.2.2 x h
     ·right; omega⟩) 4 (by omega)
   obtain ⟨⟨k1, k2⟩, k3, k4⟩ := key
   generalize Ku (DV L v) L[m] 4 out = o at k1 k2 k3 k4
   have hno : m + 1 ∉ o := fun h => by
    rcases k4 _ h with h | h
    ·exact hn h
    ·omega
   refine ⟨⟨?_, ?_⟩, ?_, ?_⟩
   ·rw [List.nodup_append]
    exact ⟨k1, by simp, fun a ha b hb e => by simp at hb; subst hb; subst e; exact hno ha⟩
   ·intro x hx
    simp only [List.mem_append, List.mem_singleton] at hx
    rcases hx with hx | rfl
    ·exact k2 x hx
    ·omega
   ·intro x hx; simp [k3 x hx]
   ·intro x hx
    simp only [List.mem_append, List.mem_singleton] at hx
    rcases hx with hx | rfl
    ·rcases k4 x hx with h | h
     ·exact .inl h
     ·exact .inr (by omega)
    ·exact .inr (Nat.le_refl _)
theorem append_outN {B : Ab} {l : List Nat} {n : Nat} (h : l.length < 17592186044415) : AI D8 1 8 (Fq cN B l) (.sl (enL cN [n]) .tight) (En cN D8 1 B l) = some (Fq cN B (l ++ [n]), En cN D8 1 B (l ++ [n])) :=
 Il (by simp) (by simp; omega) (by simp; omega)
theorem q05_end {L : List Nd} (tk : Tok) (B : Ab) (hL : L.length < 17592186044415) (hl : Ao L = true) : ∀ (v n d : Nat) (out : List Nat), 1 ≤ n → n ≤ L.length → (Ak L n).lv = v → v ≤ d → L1 L.length out →
  Sh.f7 d (.sl (enL cNd L) tk) (.int .i64 (n : Int)) (Fq cN B out) (En cN D8 1 B out) = some (.ret (Fq cN B (DV L v n out)), En cN D8 1 B (DV L v n out)) := by
 intro v
 induction v with
 | zero =>
  intro n d out h1 h2 hv hd ho
  exfalso
  obtain ⟨m, rfl⟩ : ∃ m, n = m + 1 := ⟨n - 1, by omega⟩
  rw [A1 (by omega)] at hv
  have := (Ax hl (show m < L.length by omega)).1
  omega
 | succ v ih =>
  intro n d out h1 h2 hv hd ho
  obtain ⟨d, rfl⟩ : ∃ e, d = e + 1 := ⟨d - 1, by omega⟩
  obtain ⟨m, rfl⟩ : ∃ m, n = m + 1 := ⟨n - 1, by omega⟩
  have hm : m < L.length := by omega
  obtain ⟨l1, l2, l3⟩ := Ax hl hm
  have hln := KD _ _ ho
  rw [A1 hm] at hv
  show Sh.f4f (Sh.f7 d) _ _ _ _ = _
  unfold Sh.f4f
  have key := HH (G := fun rec1 vs H1 => Sh.f3j (En cN D8 1 B out) (Sh.f7 d) rec1 (ag vs 0) (ag vs 1) (ag vs 2) (ag vs 3) H1) out.length (fun i => decide (out.getD i 0 = m + 1))
   (fun i => [.sl (enL cNd L) tk, .int .i64 ((m + 1 : Nat) : Int), Fq cN B out, .int .i64 (i : Int)]) (En cN D8 1 B out) (some (.ret (Fq cN B (Ku (DV L v) L[m] 4 out ++ [m + 1])), En cN D8 1 B (Ku (DV L v) L[m] 4 out ++ [m + 1]))) (fun _ => some (.ret (Fq cN B out), En cN D8 1 B out)) (by omega) (fun rec i hi => ?_) (fun rec => ?_)
  ·refine key.trans ?_
   by_cases hmem : m + 1 ∈ out
   ·obtain ⟨i, hi, hx⟩ := List.getElem_of_mem hmem
    have hf : ∃ j, (List.range out.length).find? (fun i => decide (out.getD i 0 = m + 1)) = some j := by
     cases hq : (List.range out.length).find? (fun i => decide (out.getD i 0 = m + 1)) with
     | some j => exact ⟨j, rfl⟩
     | none =>
      have := List.find?_eq_none.1 hq i (by simpa using hi)
      simp [List.getD_eq_getElem?_getD, List.getElem?_eq_getElem hi, hx] at this
    obtain ⟨j, hj⟩ := hf
    rw [hj]; simp only [DV, if_pos hmem]
   ·have hf : (List.range out.length).find? (fun i => decide (out.getD i 0 = m + 1)) = none := by
     rw [List.find?_eq_none]
     intro i hi
     have hi' : i < out.length := by simpa using hi
     rw [List.getD_eq_getElem?_getD, List.getElem?_eq_getElem hi']
     simp only [Option.getD_some, decide_eq_true_eq]
     intro e; exact hmem (e ▸ List.getElem_mem hi')
    rw [hf]; simp only [DV, if_neg hmem, A1 hm]
  ·have hi' : (i : Int) < (out.length : Int) := by omega
   have hd2 : decide ((out[i] : Int) = ((m + 1 : Nat) : Int)) = decide (out.getD i 0 = m + 1) := by
    rw [List.getD_eq_getElem?_getD, List.getElem?_eq_getElem hi, Bool.eq_iff_iff]; simp; omega
   unfold Sh.f3j
   simp only [GMb, GMc, Ah, Aj, Au, Nat.zero_add, Nat.add_zero, Nat.mul_one, Bl, Hz, A3, hi', Av hi, List.getElem?_cons_zero, Aw (show i < 9223372036854775807 by omega), hd2]
   cases decide (out.getD i 0 = m + 1) <;> simp only [GMb, GMc]
  ·unfold Sh.f3j
   rw [Hz]
   simp only [GMb, GMc, A3, Int.lt_irrefl]
   rw [← Hz]
   refine Cp (G := fun rec2 vs H1 => Sh.f3i (En cN D8 1 B out) (Sh.f7 d) rec2 (ag vs 0) (ag vs 1) (ag vs 2) (ag vs 3) H1) 4 (fun k => [.sl (enL cNd L) tk, .int .i64 ((m + 1 : Nat) : Int), Fq cN B (Ku (DV L v) L[m] k out), .int .i64 (k : Int)]) (fun k => En cN D8 1 B (Ku (DV L v) L[m] k out)) _ (by decide) (fun rec2 k hk => ?_) (fun rec2 => ?_)
   ·have hk' : (k : Int) < 4 := by omega
    have hws : IntKind.i64.wrap ((k : Int) + 1) = ((k + 1 : Nat) : Int) := Aw (by omega)
    have hwm : IntKind.i64.wrap (((m + 1 : Nat) : Int) - 1) = (m : Int) := by rw [A0] <;> omega
    obtain ⟨q1, q2, q3⟩ := l3 k hk
    have ho' : L1 L.length (Ku (DV L v) L[m] k out) := Kt (fun o => L1 L.length o) ho (fun k o hk hlv hkid hP => by
     obtain ⟨q1, q2, q3⟩ := l3 k hk
     have := (q3 hlv hkid).1
     exact (OS hl v (L[m].kid k).toNat o (by omega) (by omega) hP).1) k (by omega)
    unfold Sh.f3i
    rw [NC]
    generalize Ku (DV L v) L[m] k out = o at ho'
    simp only [GMb, GMc, Ah, Aj, Au, Nat.zero_add, Nat.add_zero, Nat.mul_one, Bl, hk', hwm, Av hm, Sh.f2n, hws]
    by_cases hlv : 1 < L[m].lv
    ·by_cases hkid : 0 < L[m].kid k
     ·obtain ⟨r1, r2⟩ := q3 hlv hkid
      obtain ⟨c, hc⟩ : ∃ c : Nat, L[m].kid k = ((c + 1 : Nat) : Int) := ⟨(L[m].kid k - 1).toNat, by omega⟩
      have hcl : c < L.length := by omega
      have hy := r2 L[c] (by rw [show (L[m].kid k - 1).toNat = c from by omega]; exact List.getElem?_eq_getElem hcl)
      have hi2 := ih (c + 1) d o (by omega) (by omega) (by rw [A1 hcl]; omega) (by omega) ho'
      have hc0 : ((c + 1 : Nat) : Int) > 0 := by omega
      rw [if_pos ⟨hlv, hkid⟩]
      simp only [GMb, GMc, Ah, Aj, Au, Nat.zero_add, Nat.add_zero, Nat.mul_one, Bl, hlv, hwm, Av hm, Ah, CC hk, C0 hk, hc, hc0, hi2, gt_iff_lt, Int.toNat_natCast, Sh.f2n, hws]
     ·rw [if_neg (fun h => hkid h.2)]
      simp only [GMb, GMc, Ah, Aj, Au, Nat.zero_add, Nat.add_zero, Nat.mul_one, Bl, hlv, hwm, Av hm, Ah, CC hk, C0 hk, hkid, gt_iff_lt, Sh.f2n, hws]
    ·rw [if_neg (fun h => hlv h.1)]
     simp only [GMb, GMc, Ah, Aj, Au, Nat.zero_add, Nat.add_zero, Nat.mul_one, Bl, hlv, gt_iff_lt, Sh.f2n, hws]
   ·have hf : ¬ (((4 : Nat) : Int) < 4) := by decide
    have ho' : L1 L.length (Ku (DV L v) L[m] 4 out) := Kt (fun o => L1 L.length o) ho (fun k o hk hlv hkid hP => by
     obtain ⟨q1, q2, q3⟩ := l3 k hk
     have := (q3 hlv hkid).1
     exact (OS hl v (L[m].kid k).toNat o (by omega) (by omega) hP).1) 4 (by omega)
    have hle := KD _ _ ho'
    unfold Sh.f3i
    simp only [GMb, GMc, hf, build_N, append_outN (show (Ku (DV L v) L[m] 4 out).length < 17592186044415 by omega)]
end Go.Gm
namespace Go.Gm
def CL (L : List Nd) : List Aa := [.sl (enL cNd L) .no]
def Lb (L : List Nd) : Aa := .agg (CL L)
def CX (L : List Nd) : Int := (Ak L (L.length : Int)).lv
def LC (L : List Nd) : List Nat := DV L (CX L).toNat L.length []
def dupB (L : List Nd) : Bool := (List.range L.length).all fun i => !((Aq L).getD (i + 1) true) && (List.range i).all fun k => decide (L.getD i ⟨0, 0, 0, 0, 0⟩ ≠ L.getD k ⟨0, 0, 0, 0, 0⟩)
def Nf (L : List Nd) : Bool := (List.range (LC L).length).all (fun i => decide ((LC L).getD i 0 = i + 1)) && decide ((LC L).length = L.length)
def C9 (L : List Nd) : Bool :=
 decide (L = []) || (Ao L && !(Ct L L.length) && dupB L && Nf L)
theorem boxQuad (L : List Nd) (tk : Tok) (H : Ab) : Ek true 1 (.agg [.sl (enL cNd L) tk]) H = some (.ptr H.length 0 0, H ++ [.cel 0 [.sl (enL cNd L) tk]]) := Ig rfl rfl
theorem q05_right (L : List Nd) (tk : Tok) (H : Ab) (hL : L.length < 17592186044415) : Sh.f22 (.agg [.sl (enL cNd L) tk]) H = some (.ret (.bool (C9 L)), H) := by
 unfold Sh.f22
 simp only [GMb, GMc, Ah, Aj, Au, Nat.zero_add, Nat.add_zero, Nat.mul_one, Bl, boxQuad, GP, Nk, List.getElem?_cons_zero, A3]
 by_cases h0 : L = []
 ·subst h0; simp [C9]
 ·have hlen : L.length ≠ 0 := fun h => h0 (List.eq_nil_of_length_eq_zero h)
  have h0' : ¬ ((L.length : Int) = 0) := by omega
  have hq : C9 L = (Ao L && !(Ct L L.length) && dupB L && Nf L) := by simp [C9, h0]
  simp only [GMb, GMc, h0', Ri L tk _ (show L.length < 1152921504606846976 by omega)]
  cases hl : Ao L with
  | false => simp [hq, hl]
  | true =>
   simp only [GMb, GMc, A3, Px L tk L.length _ (show L.length < 140737488355327 by omega) hl (Nat.le_refl _)]
   cases hh : Ct L L.length with
   | true => simp [hq, hh]
   | false =>
    simp only [GMb, GMc, Gk L tk _ (show L.length < 140737488355327 by omega) hl]
    rw [hq, hl, hh]
    simp only [GMb, GMc]
    generalize hB : H ++ [.cel 0 [.sl (enL cNd L) tk]] = B
    have hfin : ∀ (v : Bool) (G : Ab), rP H (.bool v) (B ++ G) = some (.ret (.bool v), H) := fun v G => by rw [← hB, List.append_assoc]; exact Mh
    have hfin0 : ∀ (v : Bool), rP H (.bool v) B = some (.ret (.bool v), H) := fun v => by rw [← hB]; exact Mh
    have key := DF (G := fun rec1 vs H1 => Sh.f3m H rec1 (ag vs 0) (ag vs 1) (ag vs 2) H1) L.length (fun i => !((Aq L).getD (i + 1) true) && (List.range i).all fun k => decide (L.getD i ⟨0, 0, 0, 0, 0⟩ ≠ L.getD k ⟨0, 0, 0, 0, 0⟩))
     (fun i => [.sl (enL cNd L) tk, .sl (enL cB (Aq L)) .no, .int .i64 (i : Int)]) B (some (.ret (.bool (Nf L)), H)) (some (.ret (.bool false), H)) (by omega) (fun rec i hi => ?_) (fun rec => ?_)
    ·refine key.trans ?_
     rw [show dupB L = (List.range L.length).all fun i => !((Aq L).getD (i + 1) true) && (List.range i).all fun k => decide (L.getD i ⟨0, 0, 0, 0, 0⟩ ≠ L.getD k ⟨0, 0, 0, 0, 0⟩) from rfl]
     cases (List.range L.length).all fun i => !((Aq L).getD (i + 1) true) && (List.range i).all fun k => decide (L.getD i ⟨0, 0, 0, 0, 0⟩ ≠ L.getD k ⟨0, 0, 0, 0, 0⟩) <;> simp only [GMb, GMc]
    ·have hi' : (i : Int) < (L.length : Int) := by omega
     have hlt : i + 1 < (Aq L).length := by rw [BN]; omega
     have hws : IntKind.i64.wrap ((i : Int) + 1) = ((i + 1 : Nat) : Int) := Aw (by omega)
     have hgd : (Aq L).getD (i + 1) true = (Aq L)[i + 1] := by rw [List.getD_eq_getElem?_getD, List.getElem?_eq_getElem hlt]; rfl
     unfold Sh.f3m
     simp only [GMb, GMc, Ah, Aj, Au, Nat.zero_add, Nat.add_zero, Nat.mul_one, Bl, A3, hi', hws, Av hlt, List.getElem?_cons_zero, hgd]
     cases (Aq L)[i + 1] with
     | true => simp only [GMb, GMc, hfin0]
     | false =>
      simp only [GMb, GMc]
      refine DF (G := fun rec2 vs H1 => Sh.f3k H rec rec2 (ag vs 0) (ag vs 1) (ag vs 2) (ag vs 3) H1) i (fun k => decide (L.getD i ⟨0, 0, 0, 0, 0⟩ ≠ L.getD k ⟨0, 0, 0, 0, 0⟩))
       (fun k => [.sl (enL cNd L) tk, .sl (enL cB (Aq L)) .no, .int .i64 (i : Int), .int .i64 (k : Int)]) B _ _ (by omega) (fun rec2 k hk => ?_) (fun rec2 => ?_)
      ·have hk' : (k : Int) < (i : Int) := by omega
       have hkl : k < L.length := by omega
       unfold Sh.f3k
       simp only [GMb, GMc, hk', Av hi, Av hkl, Gn, eq_nd, hfin0, Aw (show k < 9223372036854775807 by omega)]
       simp only [List.getD_eq_getElem?_getD, List.getElem?_eq_getElem hi, List.getElem?_eq_getElem hkl, Option.getD_some]
       by_cases he : L[i] = L[k]
       ·simp only [he, ne_eq, not_true_eq_false, GMb, GMc]
       ·simp only [he, ne_eq, not_false_eq_true, GMb, GMc]
      ·unfold Sh.f3k
       simp only [GMb, GMc, Int.lt_irrefl, hws]
    ·unfold Sh.f3m
     have hm : L.length - 1 < L.length := by omega
     have hlm : L.length = L.length - 1 + 1 := by omega
     have hlv : (Ak L (L.length : Int)).lv = ((CX L).toNat : Int) := by
      have := (Ax hl hm).1
      unfold CX
      rw [hlm, A1 hm]; omega
     have hend : Sh.f7 AM (.sl (enL cNd L) tk) (.int .i64 (L.length : Int)) (.sl [] .tight) B = some (.ret (Fq cN B (DV L (CX L).toNat L.length [])), En cN D8 1 B (DV L (CX L).toNat L.length [])) := q05_end tk B hL hl (CX L).toNat L.length AM [] (by omega) (Nat.le_refl _) hlv (by
      have := (Ax hl hm).2.1
      rw [Dm]
      unfold CX
      rw [hlm, A1 hm]; omega) ⟨by simp, by simp⟩
     have hok := (OS hl (CX L).toNat L.length [] (by omega) (Nat.le_refl _) ⟨by simp, by simp⟩).1
     have hol := KD _ _ hok
     obtain ⟨G, hG⟩ := Mj (f := cN) (ty := D8) (sz := 1) B (DV L (CX L).toNat L.length [])
     simp only [GMb, GMc, A3, Int.lt_irrefl, hend, hG, Hz]
     have hsame : LC L = DV L (CX L).toNat L.length [] := rfl
     rw [← hsame] at hol ⊢
     unfold Nf
     generalize LC L = o at hol ⊢
     have key := DF (G := fun rec3 vs H1 => Sh.f3l H rec3 (ag vs 0) (ag vs 1) (ag vs 2) H1) o.length (fun i => decide (o.getD i 0 = i + 1)) (fun i => [.sl (enL cNd L) tk, .sl (enL cN o) (outK B o), .int .i64 (i : Int)]) (B ++ G) (some (.ret (.bool (decide (o.length = L.length))), H)) (some (.ret (.bool false), H)) (by omega) (fun rec i hi => ?_) (fun rec => ?_)
     ·refine key.trans ?_
      cases (List.range o.length).all (fun i => decide (o.getD i 0 = i + 1)) <;> simp only [GMb, GMc]
     ·have hi' : (i : Int) < (o.length : Int) := by omega
      unfold Sh.f3l
      simp only [GMb, GMc, Ah, Aj, Au, Nat.zero_add, Nat.add_zero, Nat.mul_one, Bl, A3, hi', Av hi, List.getElem?_cons_zero, Aw (show i < 9223372036854775807 by omega), hfin]
      simp only [List.getD_eq_getElem?_getD, List.getElem?_eq_getElem hi, Option.getD_some]
      by_cases he : o[i] = i + 1
      ·have : (o[i] : Int) = ((i + 1 : Nat) : Int) := by omega
       simp only [decide_eq_true this, decide_eq_true he, GMb, GMc]
      ·have : ¬ (o[i] : Int) = ((i + 1 : Nat) : Int) := by omega
       simp only [decide_eq_false this, decide_eq_false he, GMb, GMc]
     ·have hd : decide ((o.length : Int) = (L.length : Int)) = decide (o.length = L.length) := by rw [Bool.eq_iff_iff]; simp; omega
      unfold Sh.f3l
      simp only [GMb, GMc, A3, Int.lt_irrefl, hfin, hd]
theorem q05_level (L : List Nd) (tk : Tok) (H : Ab) (hL : L.length < 17592186044415) : Sh.fr (.agg [.sl (enL cNd L) tk]) H = some (.ret (.int .i64 (if L = [] then 0 else CX L)), H) := by
 unfold Sh.fr
 simp only [GMb, GMc, Ah, Aj, Au, Nat.zero_add, Nat.add_zero, Nat.mul_one, Bl, boxQuad, GP, Nk, List.getElem?_cons_zero, A3]
 by_cases h0 : L = []
 ·subst h0; simp
 ·have hlen : L.length ≠ 0 := fun h => h0 (List.eq_nil_of_length_eq_zero h)
  have h0' : ¬ ((L.length : Int) = 0) := by omega
  have hm : L.length - 1 < L.length := by omega
  have hw : IntKind.i64.wrap ((L.length : Int) - 1) = ((L.length - 1 : Nat) : Int) := Du (by omega) (by omega)
  have ht : CX L = L[L.length - 1].lv := by
   unfold CX
   rw [B9 (n := L.length - 1) (by omega) hm]
  simp only [h0, h0', GMb, GMc, Ah, Aj, Au, Nat.zero_add, Nat.add_zero, Nat.mul_one, Bl, hw, Av hm, Pv, ht]
end Go.Gm
namespace Go.Gm
abbrev nd0 : Nd := ⟨0, 0, 0, 0, 0⟩
def Nd.setKid (x : Nd) (k : Nat) (c : Int) : Nd := match k with | 0 => { x with k0 := c } | 1 => { x with k1 := c } | 2 => { x with k2 := c } | _ => { x with k3 := c }
theorem Ci (x : Nd) (k : Nat) (c : Int) : (x.setKid k c).lv = x.lv := by unfold Nd.setKid; split <;> rfl
theorem Dg (x : Nd) {k : Nat} (c : Int) (h : k < 4) : (x.setKid k c).kid k = c := by
 match k, h with
 | 0, _ => rfl
 | 1, _ => rfl
 | 2, _ => rfl
 | 3, _ => rfl
theorem BK (x : Nd) {k j : Nat} (c : Int) (h : k < 4) (hj : j < 4) (hne : j ≠ k) : (x.setKid k c).kid j = x.kid j := by
 match k, j, h, hj with
 | 0, 1, _, _ => rfl
 | 0, 2, _, _ => rfl
 | 0, 3, _, _ => rfl
 | 1, 0, _, _ => rfl
 | 1, 2, _, _ => rfl
 | 1, 3, _, _ => rfl
 | 2, 0, _, _ => rfl
 | 2, 1, _, _ => rfl
 | 2, 3, _, _ => rfl
 | 3, 0, _, _ => rfl
 | 3, 1, _, _ => rfl
 | 3, 2, _, _ => rfl
 | 0, 0, _, _ => exact absurd rfl hne
 | 1, 1, _, _ => exact absurd rfl hne
 | 2, 2, _, _ => exact absurd rfl hne
 | 3, 3, _, _ => exact absurd rfl hne
section
variable {H : Ab} {p k : Nat} {x : Nd} {cs cs' : List Aa}
theorem DG (hg : H[p]? = some (.cel 0 (cNd x))) : Ad true 5 (.ptr p 0 0) H = some (.agg (cNd x)) := by
 simp only [Ad, AY hg, Option.bind_some, if_true]; rfl
theorem GO (hg : H[p]? = some (.cel 0 (cNd x))) : Ad false 1 (.ptr p 0 0) H = some (.int .i64 x.lv) := by
 simp only [Ad, AY hg, Option.bind_some, Bool.false_eq_true, if_false]; rfl
theorem Rr (hg : H[p]? = some (.cel 0 (cNd x))) (h : k < 4) : Ad false 1 (.ptr p 0 (1 + k)) H = some (.int .i64 (x.kid k)) := by
 simp only [Ad, AY hg, Option.bind_some, Bool.false_eq_true, if_false]; exact C0 h
theorem C6 {c : Int} (hg : H[p]? = some (.cel 0 (cNd x))) (h : k < 4) : Al 1 (.ptr p 0 (1 + k)) (.int .i64 c) H = some (H.set p (.cel 0 (cNd (x.setKid k c)))) := by
 simp only [Al, AY hg, Option.bind_some, acells_int, CK hg]
 match k, h with
 | 0, _ => rfl
 | 1, _ => rfl
 | 2, _ => rfl
 | 3, _ => rfl
theorem EM (hg : H[p]? = some (.cel 0 cs)) (hl : cs.length = 5) : Al 5 (.ptr p 0 0) (.agg (cNd x)) H = some (H.set p (.cel 0 (cNd x))) := by
 simp only [Al, AY hg, Option.bind_some, RV, CK hg, JM hl]
 rw [if_pos ⟨rfl, by omega⟩]
theorem Ex {K : IntKind} {id g o : Nat} (h : k < 4) : Bk 4 1 (.ptr id g o) (.int K (k : Int)) = some (.ptr id g (o + k)) := by
 unfold Bk
 simp only []
 rw [if_pos ⟨by omega, by omega⟩]; simp

end
theorem FW (H : Ab) : AF (some [.int .i64 0, .int .i64 0, .int .i64 0, .int .i64 0, .int .i64 0]) H = some (.ptr H.length 0 0, H ++ [.cel 0 (cNd nd0)]) := alloc_eq rfl
theorem CO (L : List Nd) : (Aq L).getD 0 true = true := by
 have key : ∀ (l : List Nd) (E : List Bool), E[0]? = some true → (l.foldl (fun E x => E ++ [Kv E x]) E)[0]? = some true := by
  intro l
  induction l with
  | nil => intro E h; exact h
  | cons a l ih => intro E h; exact ih _ (by rw [List.getElem?_append_left (by cases E with | nil => simp at h | cons e E => simp)]; exact h)
 rw [List.getD_eq_getElem?_getD, show (Aq L)[0]? = some true from key L [true] rfl]; rfl
def FM (L : List Nd) (x : Nd) (k : Nat) : Int := if x.kid k = 0 then 0 else (Ak L (x.kid k)).kid (3 - k)
def Bw (L : List Nd) (n : Nat) : Nd := ⟨(Ak L n).lv - 1, FM L (Ak L n) 0, FM L (Ak L n) 1, FM L (Ak L n) 2, FM L (Ak L n) 3⟩
def Bm : Nat → List Nd → Nat → List Nd × Nat
 | 0, L, n => (L, n)
 | f + 1, L, n => if Ct L n then Bm f (L ++ [Bw L n]) (L.length + 1) else (L, n)
def Cv (L : List Nd) (n : Nat) : List Nd × Nat :=
 if (Aq L).getD n true then (L, 0) else Bm (Ak L n).lv.toNat L n
theorem Rx (L : List Nd) (n : Nat) {k : Nat} (h : k < 4) : (Bw L n).kid k = FM L (Ak L n) k := by
 match k, h with
 | 0, _ => rfl
 | 1, _ => rfl
 | 2, _ => rfl
 | 3, _ => rfl
theorem EO {L : List Nd} {x : Nd} (hl : Ao L = true) (hx : DD (L ++ [x]) L.length = true) : Ao (L ++ [x]) = true := by
 unfold Ao
 rw [List.all_eq_true]
 intro i hi
 have hi' : i < L.length + 1 := by simpa using hi
 by_cases h : i = L.length
 ·rw [h]; exact hx
 ·have hlt : i < L.length := by omega
  have h1 := List.all_eq_true.1 hl i (by simpa using hlt)
  simp only [DD, List.getElem?_append_left hlt, List.getElem?_eq_getElem hlt, Bool.and_eq_true, List.all_eq_true] at h1 ⊢
  refine ⟨h1.1, fun k hk => ?_⟩
  have h2 := h1.2 k hk
  simp only [BS, Bool.and_eq_true, decide_eq_true_eq] at h2 ⊢
  refine ⟨h2.1, fun q1 q2 => ?_⟩
  obtain ⟨r1, r2⟩ := h2.2 q1 q2
  refine ⟨r1, fun y hy => ?_⟩
  rw [List.getElem?_append_left (by omega)] at hy
  exact r2 y hy
theorem PJ {L : List Nd} {x : Nd} (h1 : 1 ≤ x.lv) (h2 : x.lv ≤ 1329) (h3 : ∀ k, k < 4 → 0 ≤ x.kid k ∧ (x.lv = 1 → x.kid k ≤ 255) ∧ (1 < x.lv → 0 < x.kid k → x.kid k ≤ L.length ∧ (Ak L (x.kid k)).lv = x.lv - 1)) : DD (L ++ [x]) L.length = true := by
 simp only [DD, List.getElem?_append_right (Nat.le_refl _), Nat.sub_self, List.getElem?_cons_zero, Bool.and_eq_true, decide_eq_true_eq, List.all_eq_true]
 refine ⟨⟨h1, h2⟩, fun k hk => ?_⟩
 obtain ⟨q1, q2, q3⟩ := h3 k (by simpa using hk)
 simp only [BS, Bool.and_eq_true, decide_eq_true_eq]
 refine ⟨⟨q1, q2⟩, fun r1 r2 => ?_⟩
 obtain ⟨s1, s2⟩ := q3 r1 r2
 refine ⟨s1, fun y hy => ?_⟩
 have hlt : (x.kid k - 1).toNat < L.length := by omega
 rw [List.getElem?_append_left hlt, List.getElem?_eq_getElem hlt] at hy
 injection hy with hy
 rw [← hy, ← s2, B9 (n := (x.kid k - 1).toNat) (by omega) hlt]
theorem KH {L : List Nd} (hl : Ao L = true) {n : Nat} (hn : n < L.length) (h2 : 2 ≤ L[n].lv) : Ao (L ++ [Bw L (n + 1)]) = true := by
 obtain ⟨l1, l2, l3⟩ := Ax hl hn
 have e : Ak L ((n + 1 : Nat) : Int) = L[n] := A1 hn
 have elv : (Bw L (n + 1)).lv = L[n].lv - 1 := by show (Ak L ((n + 1 : Nat) : Int)).lv - 1 = _; rw [e]
 refine EO hl (PJ (by omega) (by omega) fun k hk => ?_)
 obtain ⟨q1, q2, q3⟩ := l3 k hk
 rw [Rx L (n + 1) hk, elv, e]
 unfold FM
 by_cases hc : L[n].kid k = 0
 ·rw [if_pos hc]; exact ⟨by omega, fun _ => by omega, fun _ h => by omega⟩
 ·rw [if_neg hc]
  obtain ⟨m, hm⟩ : ∃ m : Nat, L[n].kid k = ((m + 1 : Nat) : Int) := ⟨(L[n].kid k - 1).toNat, by omega⟩
  obtain ⟨r1, r2⟩ := q3 (by omega) (by omega)
  have hml : m < L.length := by omega
  have hy := r2 L[m] (by rw [show (L[n].kid k - 1).toNat = m from by omega]; exact List.getElem?_eq_getElem hml)
  obtain ⟨y1, y2, y3⟩ := Ax hl hml
  rw [B9 hm hml]
  obtain ⟨s1, s2, s3⟩ := y3 (3 - k) (by omega)
  refine ⟨s1, fun h => s2 (by omega), fun h h0 => ?_⟩
  obtain ⟨t1, t2⟩ := s3 (by omega) h0
  refine ⟨by omega, ?_⟩
  obtain ⟨c, hc'⟩ : ∃ c : Nat, L[m].kid (3 - k) = ((c + 1 : Nat) : Int) := ⟨(L[m].kid (3 - k) - 1).toNat, by omega⟩
  have hcl : c < L.length := by omega
  rw [B9 hc' hcl]
  have := t2 L[c] (by rw [show (L[m].kid (3 - k) - 1).toNat = c from by omega]; exact List.getElem?_eq_getElem hcl)
  omega
theorem KI {L : List Nd} {n : Nat} (h : Ct L n = true) : n ≠ 0 ∧ 2 ≤ (Ak L n).lv := by
 simp only [Ct, Bool.and_eq_true, decide_eq_true_eq] at h
 exact ⟨h.1.1, h.1.2⟩
theorem RU {H G : Ab} {l : List Nd} {x : Nd} (h : l.length < 3518437208883) : AI As 5 40 (.sl (enL cNd l) (.own H.length)) (.sl (enL cNd [x]) .tight) (H ++ .tok l.length As 5 :: G) = some (.sl (enL cNd (l ++ [x])) (.own H.length), H ++ .tok (l.length + 1) As 5 :: G) := by
 have := DW (f := cNd) (l := l) (m := [x]) (ty := As) (bytes := 40) (tk := .tight) (H := H ++ .tok l.length As 5 :: G) (t := H.length) (by simp) (by simp) (by simp; omega) (by simp; omega)
 rw [this]; simp
def QW (f : Nat → Int) (x : Nd) : Nat → Nd
 | 0 => x
 | k + 1 => (QW f x k).setKid k (f k)
theorem QV (f : Nat → Int) (x : Nd) : QW f x 4 = ⟨x.lv, f 0, f 1, f 2, f 3⟩ := rfl
theorem build_lv (z : Int) : A6 (some [.int .i64 0, .int .i64 0, .int .i64 0, .int .i64 0, .int .i64 0]) [(0, 1, .int .i64 z)] = some (.agg (cNd ⟨z, 0, 0, 0, 0⟩)) := by
 simp [A6, GV, DQ, cNd]
theorem q06_shrink (L : List Nd) (tk : Tok) (n : Nat) (H : Ab) (hL : L.length < 3518437200000) (hl : Ao L = true) (hn : n ≤ L.length) :
  Sh.f2e (.sl (enL cNd L) tk) (.int .i64 (n : Int)) H = some (.ret (.tup [.sl (enL cNd (Cv L n).1) .no, .int .i64 ((Cv L n).2 : Int)]), H) := by
 unfold Sh.f2e
 have hb : AH 5 [] = some (.sl (enL cNd []) .tight) := rfl
 rw [hb]
 by_cases h0 : L = []
 ·subst h0
  have hn0 : n = 0 := by simpa using hn
  subst hn0
  have ha : AI As 5 40 (.sl (enL cNd []) .tight) (.sl (enL cNd []) tk) H = some (.sl (enL cNd []) .tight, H) := FV (by simp [BI, enL])
  have he := Rj [] .tight 0 H (by simp) hl (Nat.le_refl _)
  simp only [GMb, GMc, ha, he, show (Aq []).getD 0 true = true from rfl, rPN_self, Fh, C4, Dn, Kr, Ef, Option.map_some]
  rfl
 ·have ha : AI As 5 40 (.sl (enL cNd []) .tight) (.sl (enL cNd L) tk) H = some (.sl (enL cNd L) (.own H.length), H ++ [.tok L.length As 5]) := by
   have := Cu (f := cNd) (l := []) (m := L) (ty := As) (bytes := 40) (tk := tk) (H := H) h0 (by simp; omega) (by simp; omega)
   simpa using this
  simp only [GMb, GMc, ha, Rj L _ n _ (show L.length < 140737488355327 by omega) hl hn]
  unfold Cv
  cases hem : (Aq L).getD n true with
  | true => simp only [GMb, GMc, DO, Fh, C4, Dn, Kr, Ef, Option.map_some]; rfl
  | false =>
   simp only [GMb, GMc]
   have hlv : (Ak L n).lv ≤ 1329 := by
    cases n with
    | zero => exfalso; rw [CO] at hem; cases hem
    | succ m => rw [A1 hn]; exact (Ax hl hn).2.1
   have key := Bt (G := fun rec1 vs H1 => Sh.f4p H rec1 (ag vs 0) (ag vs 1) H1) (σ := List Nd × Nat × Ab) (fun s => Ao s.1 = true ∧ s.2.1 ≤ s.1.length ∧ s.1.length + (Ak s.1 s.2.1).lv.toNat < 3518437208883 ∧ s.1.length + (Ak s.1 s.2.1).lv.toNat < 3518437208883)
    (fun s => [.int .i64 (s.2.1 : Int), .sl (enL cNd s.1) (.own H.length)]) (fun s => H ++ .tok s.1.length As 5 :: s.2.2) (fun s => (Ak s.1 s.2.1).lv.toNat)
    (fun s => some (.ret (.tup [.sl (enL cNd (Bm (Ak s.1 s.2.1).lv.toNat s.1 s.2.1).1) .no, .int .i64 ((Bm (Ak s.1 s.2.1).lv.toNat s.1 s.2.1).2 : Int)]), H)) (fun s rec hs hrec => ?_) (L, n, []) ⟨hl, hn, by dsimp only; omega, by dsimp only; omega⟩ (by dsimp only; omega)
   ·exact key
   ·obtain ⟨M, i, G⟩ := s
    obtain ⟨hs1, hs2, hs3, hs4⟩ := hs
    simp only at hs1 hs2 hs3 hs4 hrec ⊢
    unfold Sh.f4p
    simp only [GMb, GMc, Px M _ i _ (show M.length < 140737488355327 by omega) hs1 hs2]
    cases hh : Ct M i with
    | false =>
     have : Bm (Ak M i).lv.toNat M i = (M, i) := by
      cases (Ak M i).lv.toNat with
      | zero => rfl
      | succ f => simp [Bm, hh]
     simp only [GMb, GMc, this, DO, Fh, C4, Dn, Kr, Ef, Option.map_some]
    | true =>
     obtain ⟨hi0, hlv2⟩ := KI hh
     obtain ⟨m, rfl⟩ : ∃ m, i = m + 1 := ⟨i - 1, by omega⟩
     have hm : m < M.length := hs2
     obtain ⟨l1, l2, l3⟩ := Ax hs1 hm
     have hx : Ak M ((m + 1 : Nat) : Int) = M[m] := A1 hm
     rw [hx] at hlv2 hs3 hrec ⊢
     have hwm : IntKind.i64.wrap (((m + 1 : Nat) : Int) - 1) = (m : Int) := by rw [A0] <;> omega
     have hwl : IntKind.i64.wrap (M[m].lv - 1) = M[m].lv - 1 := A0 (by omega) (by omega)
     have hsf : Bm M[m].lv.toNat M (m + 1) = Bm (M[m].lv - 1).toNat (M ++ [Bw M (m + 1)]) (M.length + 1) := by
      rw [show M[m].lv.toNat = (M[m].lv - 1).toNat + 1 from by omega]
      simp only [Bm, hh, if_true]
     generalize hB : H ++ .tok M.length As 5 :: G = B
     simp only [GMb, GMc, Ah, Aj, Au, Nat.zero_add, Nat.add_zero, Nat.mul_one, Bl, hwm, Av hm, hwl, build_lv, FW, EM (AD (B := B) (cs := cNd nd0)) rfl, Cd]
     refine Cp (G := fun rec2 vs H1 => Sh.f3u H rec rec2 (ag vs 0) (ag vs 1) (ag vs 2) (ag vs 3) H1) 4 (fun k => [.int .i64 ((m + 1 : Nat) : Int), .sl (enL cNd M) (.own H.length), .ptr B.length 0 0, .int .i64 (k : Int)]) (fun k => B ++ [.cel 0 (cNd (QW (FM M M[m]) ⟨M[m].lv - 1, 0, 0, 0, 0⟩ k))]) _ (by decide) (fun rec2 k hk => ?_) (fun rec2 => ?_)
     ·have hk' : (k : Int) < 4 := by omega
      unfold Sh.f3u
      have hinn := q05_inner M (.own H.length) m k (B ++ [.cel 0 (cNd (QW (FM M M[m]) ⟨M[m].lv - 1, 0, 0, 0, 0⟩ k))]) (by omega) hs1 hm hlv2 hk
      simp only [GMb, GMc, hk', hinn, Aj, Nat.zero_add, Ex hk, C6 (AD (B := B)) hk, Cd, Aw (show k < 9223372036854775807 by omega)]
      rfl
     ·have hf : ¬ (((4 : Nat) : Int) < 4) := by decide
      have hel : (⟨M[m].lv - 1, FM M M[m] 0, FM M M[m] 1, FM M M[m] 2, FM M M[m] 3⟩ : Nd) = Bw M (m + 1) := by unfold Bw; rw [hx]
      unfold Sh.f3u
      rw [QV]
      simp only [GMb, GMc, hf, DG (AD (B := B)), FU]
      rw [← hB, List.append_assoc, List.cons_append, RU (by omega)]
      simp only [GMb, GMc, A3, List.length_append, List.length_singleton, hel]
      have hlv' : (Ak (M ++ [Bw M (m + 1)]) ((M.length + 1 : Nat) : Int)).lv = M[m].lv - 1 := by
       rw [A1 (by simp), show (M ++ [Bw M (m + 1)])[M.length]'(by simp) = Bw M (m + 1) from by simp]
       show (Ak M ((m + 1 : Nat) : Int)).lv - 1 = _
       rw [hx]
      have := hrec (M ++ [Bw M (m + 1)], M.length + 1, G ++ [.cel 0 (cNd (Bw M (m + 1)))]) ⟨KH hs1 hm hlv2, by simp, by dsimp only; rw [hlv']; simp; omega, by dsimp only; rw [hlv']; simp; omega⟩ (by dsimp only; rw [hlv']; omega)
      simp only [List.length_append, List.length_singleton] at this
      rw [this, hlv', hsf]
end Go.Gm
namespace Go.Gm
def B1 (l : List Nd) (x : Nd) : Nat := match (List.range l.length).find? (fun i => decide (l.getD i nd0 = x)) with | some i => i + 1 | none => 0
theorem CD {l : List Nd} {x : Nd} {i : Nat} : B1 l x = i + 1 ↔ l[i]? = some x ∧ ∀ j, j < i → l[j]? ≠ some x := by
 unfold B1
 constructor
 ·intro h
  cases hf : (List.range l.length).find? (fun i => decide (l.getD i nd0 = x)) with
  | none => rw [hf] at h; dsimp only at h; omega
  | some k =>
   rw [hf] at h; dsimp only at h
   have hk : k = i := by omega
   subst hk
   rw [List.find?_range_eq_some] at hf
   obtain ⟨h1, h2, h3⟩ := hf
   have hlt : k < l.length := by simpa using h2
   simp only [decide_eq_true_eq, List.getD_eq_getElem?_getD, List.getElem?_eq_getElem hlt, Option.getD_some] at h1
   refine ⟨by rw [List.getElem?_eq_getElem hlt, h1], fun j hj e => ?_⟩
   have := h3 j hj
   simp only [List.getD_eq_getElem?_getD, e, Option.getD_some, decide_true, Bool.not_true] at this
   cases this
 ·rintro ⟨h1, h2⟩
  have hlt : i < l.length := (List.getElem?_eq_some_iff.1 h1).1
  have hf : (List.range l.length).find? (fun i => decide (l.getD i nd0 = x)) = some i := by
   rw [List.find?_range_eq_some]
   refine ⟨by simp [List.getD_eq_getElem?_getD, h1], by simpa using hlt, fun j hj => ?_⟩
   have hjl : j < l.length := by omega
   have := h2 j hj
   rw [List.getElem?_eq_getElem hjl] at this
   simp only [List.getD_eq_getElem?_getD, List.getElem?_eq_getElem hjl, Option.getD_some, Bool.not_eq_true', decide_eq_false_iff_not]
   exact fun e => this (by rw [e])
  rw [hf]
theorem FO {l : List Nd} {x : Nd} : B1 l x = 0 ↔ x ∉ l := by
 constructor
 ·intro h hx
  obtain ⟨i, hi, hxi⟩ := List.getElem_of_mem hx
  unfold B1 at h
  cases hf : (List.range l.length).find? (fun i => decide (l.getD i nd0 = x)) with
  | none =>
   have := List.find?_eq_none.1 hf i (by simpa using hi)
   simp [List.getD_eq_getElem?_getD, List.getElem?_eq_getElem hi, hxi] at this
  | some k => rw [hf] at h; dsimp only at h; omega
 ·intro h
  cases hf : B1 l x with
  | zero => rfl
  | succ i =>
   rw [CD] at hf
   exact absurd (List.mem_of_getElem? hf.1) h
theorem findN_le (l : List Nd) (x : Nd) : B1 l x ≤ l.length := by
 cases hf : B1 l x with
 | zero => omega
 | succ i => rw [CD] at hf; exact (List.getElem?_eq_some_iff.1 hf.1).1
theorem M6 {l m : List Nd} {x : Nd} (h : B1 l x ≠ 0) : B1 (l ++ m) x = B1 l x := by
 cases hf : B1 l x with
 | zero => exact absurd hf h
 | succ i =>
  rw [CD] at hf ⊢
  have hlt : i < l.length := (List.getElem?_eq_some_iff.1 hf.1).1
  refine ⟨by rw [List.getElem?_append_left hlt]; exact hf.1, fun j hj => ?_⟩
  rw [List.getElem?_append_left (by omega)]; exact hf.2 j hj
theorem R9 {l : List Nd} {x : Nd} (h : B1 l x = 0) : B1 (l ++ [x]) x = l.length + 1 := by
 rw [CD]
 refine ⟨by simp, fun j hj e => ?_⟩
 rw [List.getElem?_append_left hj] at e
 exact FO.1 h (List.mem_of_getElem? e)
def Ba (out : List Nd) (x : Nd) : List Nd × Nat := if B1 out x = 0 then (out ++ [x], out.length + 1) else (out, B1 out x)
def Bq (rec : Nat → List Nd → List Nd × Nat) (x : Nd) : Nat → List Nd → List Nd × Nd
 | 0, out => (out, x)
 | k + 1, out => ((rec (x.kid k).toNat (Bq rec x k out).1).1, (Bq rec x k out).2.setKid k ((rec (x.kid k).toNat (Bq rec x k out).1).2 : Int))
def AE (L : List Nd) (E : List Bool) : Nat → Nat → List Nd → List Nd × Nat
 | 0, _, out => (out, 0)
 | v + 1, n, out =>
  if E.getD n true then (out, 0)
  else if 1 < (Ak L n).lv then Ba (Bq (AE L E v) (Ak L n) 4 out).1 (Bq (AE L E v) (Ak L n) 4 out).2
  else Ba out (Ak L n)
theorem JL (out : List Nd) (x : Nd) : 0 < (Ba out x).2 := by
 unfold Ba
 split
 ·simp
 ·dsimp only; omega
theorem Pz (out : List Nd) (x : Nd) : ∃ r, (Ba out x).1 = out ++ r := by
 unfold Ba
 split
 ·exact ⟨_, rfl⟩
 ·exact ⟨[], by simp⟩
theorem P0 (out : List Nd) (x : Nd) (r : List Nd) : Ba ((Ba out x).1 ++ r) x = ((Ba out x).1 ++ r, (Ba out x).2) := by
 by_cases h : B1 out x = 0
 ·have h1 : Ba out x = (out ++ [x], out.length + 1) := by simp [Ba, h]
  rw [h1]
  have h2 : B1 (out ++ [x] ++ r) x = out.length + 1 := by rw [M6 (by rw [R9 h]; omega), R9 h]
  dsimp only
  unfold Ba
  rw [h2, if_neg (by omega)]
 ·have h1 : Ba out x = (out, B1 out x) := by simp [Ba, h]
  rw [h1]
  dsimp only
  unfold Ba
  rw [M6 h, if_neg h]
section
variable {L : List Nd} {E : List Bool}
theorem PY {rec : Nat → List Nd → List Nd × Nat} (hr : ∀ n out, ∃ r, (rec n out).1 = out ++ r) (x : Nd) : ∀ k out, ∃ r, (Bq rec x k out).1 = out ++ r
 | 0, out => ⟨[], by simp [Bq]⟩
 | k + 1, out => by
  obtain ⟨r, h⟩ := PY hr x k out
  obtain ⟨r', h'⟩ := hr (x.kid k).toNat (Bq rec x k out).1
  exact ⟨r ++ r', by simp only [Bq]; rw [h', h]; simp⟩
theorem PZ : ∀ v n out, ∃ r, (AE L E v n out).1 = out ++ r
 | 0, n, out => ⟨[], by simp [AE]⟩
 | v + 1, n, out => by
  simp only [AE]
  split
  ·exact ⟨[], by simp⟩
  ·split
   ·obtain ⟨r, h⟩ := PY (PZ v) (Ak L n) 4 out
    obtain ⟨r', h'⟩ := Pz (Bq (AE L E v) (Ak L n) 4 out).1 (Bq (AE L E v) (Ak L n) 4 out).2
    exact ⟨r ++ r', by rw [h', h]; simp⟩
   ·exact Pz _ _
theorem EP : ∀ v n out r, AE L E v n ((AE L E v n out).1 ++ r) = ((AE L E v n out).1 ++ r, (AE L E v n out).2)
 | 0, n, out, r => by simp [AE]
 | v + 1, n, out, r => by
  by_cases he : E.getD n true = true
  ·simp only [AE, if_pos he]
  ·by_cases hl : 1 < (Ak L n).lv
   ·have e : ∀ o, AE L E (v + 1) n o = Ba (Bq (AE L E v) (Ak L n) 4 o).1 (Bq (AE L E v) (Ak L n) 4 o).2 := fun o => by simp only [AE, if_neg he, if_pos hl]
    have key : ∀ k, k ≤ 4 → ∀ s, Bq (AE L E v) (Ak L n) k ((Bq (AE L E v) (Ak L n) k out).1 ++ s) = ((Bq (AE L E v) (Ak L n) k out).1 ++ s, (Bq (AE L E v) (Ak L n) k out).2) := by
     intro k
     induction k with
     | zero => intro _ s; simp [Bq]
     | succ k ih =>
      intro hk s
      simp only [Bq]
      obtain ⟨r', h'⟩ := PZ (L := L) (E := E) v ((Ak L n).kid k).toNat (Bq (AE L E v) (Ak L n) k out).1
      have hi := ih (by omega) (r' ++ s)
      have ha := EP v ((Ak L n).kid k).toNat (Bq (AE L E v) (Ak L n) k out).1 s
      rw [h'] at ha ⊢
      rw [List.append_assoc, hi]
      rw [List.append_assoc] at ha
      dsimp only
      rw [ha]
    obtain ⟨r', h'⟩ := Pz (Bq (AE L E v) (Ak L n) 4 out).1 (Bq (AE L E v) (Ak L n) 4 out).2
    have ha := P0 (Bq (AE L E v) (Ak L n) 4 out).1 (Bq (AE L E v) (Ak L n) 4 out).2 r
    rw [e, e]
    rw [h'] at ha ⊢
    rw [List.append_assoc, key 4 (by omega)]
    dsimp only
    rw [List.append_assoc] at ha
    exact ha
   ·have e : ∀ o, AE L E (v + 1) n o = Ba o (Ak L n) := fun o => by simp only [AE, if_neg he, if_neg hl]
    rw [e, e]; exact P0 out (Ak L n) r

end
end Go.Gm
namespace Go.Gm
theorem q06_find (l : List Nd) (tk : Tok) (x : Nd) (H : Ab) (hl : l.length < 1152921504606846975) : Sh.f2f (.sl (enL cNd l) tk) (.agg (cNd x)) H = some (.ret (.int .i64 (B1 l x : Int)), H) := by
 unfold Sh.f2f
 rw [Ig (sz := 5) CP rfl]
 simp only [GMb, GMc]
 have hp : (H ++ [Blk.cel 0 (cNd x)])[H.length]? = some (.cel 0 (cNd x)) := AD
 have key := HH (G := fun rec1 vs H1 => Sh.f3v H rec1 (ag vs 0) (ag vs 1) (ag vs 2) H1) l.length (fun i => decide (l.getD i nd0 = x)) (fun i => [.sl (enL cNd l) tk, .ptr H.length 0 0, .int .i64 (i : Int)]) (H ++ [.cel 0 (cNd x)])
  (some (.ret (.int .i64 0), H)) (fun i => some (.ret (.int .i64 ((i + 1 : Nat) : Int)), H)) (by omega) (fun rec i hi => ?_) (fun rec => ?_)
 ·refine key.trans ?_
  unfold B1
  cases (List.range l.length).find? (fun i => decide (l.getD i nd0 = x)) <;> rfl
 ·have hi' : (i : Int) < (l.length : Int) := by omega
  unfold Sh.f3v
  simp only [GMb, GMc, A3, hi', Av hi, Gn, DG hp, eq_nd, Aw (show i < 9223372036854775807 by omega), Pv]
  simp only [List.getD_eq_getElem?_getD, List.getElem?_eq_getElem hi, Option.getD_some]
  by_cases he : l[i] = x
  ·simp only [he, GMb, GMc]
  ·simp only [he, GMb, GMc]
 ·unfold Sh.f3v
  simp only [GMb, GMc, A3, Int.lt_irrefl, Pv]
structure VS (b id : Nat) (out : List Nd) (D : List Nat) (v : Aa) (H : Ab) : Prop where
 hv : (out = [] ∧ v = .sl [] .tight) ∨ ∃ t, b ≤ t ∧ v = .sl (enL cNd out) (.own t) ∧ H[t]? = some (.tok out.length As 5)
 hd : H[id]? = some (.cel 0 (flat cN D))
structure Ext (b id : Nat) (H H' : Ab) : Prop where
 len : H.length ≤ H'.length
 cel : ∀ (i : Nat) (cs : List Aa), i ≠ id → H[i]? = some (.cel 0 cs) → H'[i]? = some (.cel 0 cs)
 old : ∀ i, i < b → H'[i]? = H[i]?
theorem Ext.refl (b id : Nat) (H : Ab) : Ext b id H H := ⟨Nat.le_refl _, fun _ _ _ h => h, fun _ _ => rfl⟩
theorem Ext.trans {b id : Nat} {H H1 H2 : Ab} (h : Ext b id H H1) (h' : Ext b id H1 H2) : Ext b id H H2 :=
 ⟨Nat.le_trans h.len h'.len, fun i cs hi hc => h'.cel i cs hi (h.cel i cs hi hc), fun i hi => (h'.old i hi).trans (h.old i hi)⟩
theorem VS.sl {b id : Nat} {out : List Nd} {D : List Nat} {v : Aa} {H : Ab} (h : VS b id out D v H) : ∃ tk, v = .sl (enL cNd out) tk := by
 rcases h.hv with ⟨rfl, rfl⟩ | ⟨t, _, rfl, _⟩
 ·exact ⟨_, rfl⟩
 ·exact ⟨_, rfl⟩
theorem M4 {H : Ab} {i : Nat} {x : Blk} (B : Blk) (h : H[i]? = some x) : (H ++ [B])[i]? = some x := by
 have := (List.getElem?_eq_some_iff.1 h).1
 rw [List.getElem?_append_left this]; exact h
theorem VS.snoc {b id : Nat} {out : List Nd} {D : List Nat} {v : Aa} {H : Ab} (h : VS b id out D v H) (B : Blk) : VS b id out D v (H ++ [B]) := by
 refine ⟨?_, M4 B h.hd⟩
 rcases h.hv with h1 | ⟨t, h1, h2, h3⟩
 ·exact .inl h1
 ·exact .inr ⟨t, h1, h2, M4 B h3⟩
theorem Ext.snoc {b id : Nat} {H : Ab} (hb : b ≤ H.length) (B : Blk) : Ext b id H (H ++ [B]) :=
 ⟨by simp, fun i cs _ h => M4 B h, fun i hi => by rw [List.getElem?_append_left (by omega)]⟩
theorem VS.put {b id p : Nat} {out : List Nd} {D : List Nat} {v : Aa} {H : Ab} {c c' : List Aa} (h : VS b id out D v H) (hp : H[p]? = some (.cel 0 c)) (hne : p ≠ id) : VS b id out D v (H.set p (.cel 0 c')) := by
 refine ⟨?_, by rw [List.getElem?_set_ne hne]; exact h.hd⟩
 rcases h.hv with h1 | ⟨t, h1, h2, h3⟩
 ·exact .inl h1
 ·refine .inr ⟨t, h1, h2, ?_⟩
  have : p ≠ t := fun e => by rw [← e, hp] at h3; cases h3
  rw [List.getElem?_set_ne this]; exact h3
theorem VS.app {b id : Nat} {out : List Nd} {D : List Nat} {v : Aa} {H : Ab} (h : VS b id out D v H) (hb : b ≤ H.length) (x : Nd) (hl : out.length < 3518437208883) :
  ∃ v' H', AI As 5 40 v (.sl (enL cNd [x]) .tight) H = some (v', H') ∧ VS b id (out ++ [x]) D v' H' ∧ Ext b id H H' := by
 rcases h.hv with ⟨rfl, rfl⟩ | ⟨t, h1, rfl, h3⟩
 ·have := Cu (f := cNd) (l := []) (m := [x]) (ty := As) (bytes := 40) (tk := .tight) (H := H) (by simp) (by simp) (by simp)
  refine ⟨_, _, this, ⟨.inr ⟨H.length, hb, rfl, by simp⟩, M4 _ h.hd⟩, Ext.snoc hb _⟩
 ·have := DW (f := cNd) (l := out) (m := [x]) (ty := As) (bytes := 40) (tk := .tight) (H := H) (t := t) (by simp) h3 (by simp; omega) (by simp; omega)
  have htl := (List.getElem?_eq_some_iff.1 h3).1
  refine ⟨_, _, this, ⟨.inr ⟨t, h1, rfl, by simp [htl]⟩, ?_⟩, ⟨by simp, fun i cs hi hc => ?_, fun i hi => ?_⟩⟩
  ·have : t ≠ id := fun e => by have := h.hd; rw [← e, h3] at this; cases this
   rw [List.getElem?_set_ne this]; exact h.hd
  ·have : t ≠ i := fun e => by rw [← e, h3] at hc; cases hc
   rw [List.getElem?_set_ne this]; exact hc
  ·rw [List.getElem?_set_ne (by omega)]
structure VI (L out : List Nd) (D : List Nat) : Prop where
 len : D.length = L.length + 1
 cnt : out.length ≤ D.countP (fun d => decide (0 < d))
 val : ∀ (n d : Nat), D[n]? = some d → 0 < d → AE L (Aq L) (Ak L n).lv.toNat n out = (out, d)
theorem VI.grow {L out r : List Nd} {D : List Nat} (h : ∀ (n d : Nat), D[n]? = some d → 0 < d → AE L (Aq L) (Ak L n).lv.toNat n out = (out, d)) : ∀ (n d : Nat), D[n]? = some d → 0 < d → AE L (Aq L) (Ak L n).lv.toNat n (out ++ r) = (out ++ r, d) := by
 intro n d h1 h2
 have h3 := h n d h1 h2
 have := EP (L := L) (E := Aq L) (Ak L n).lv.toNat n out r
 rwa [h3] at this
theorem VI.le {L out : List Nd} {D : List Nat} (h : VI L out D) : out.length ≤ L.length + 1 := by
 have := h.cnt
 have := List.countP_le_length (p := fun d : Nat => decide (0 < d)) (l := D)
 have := h.len
 omega
theorem insF_lv {L : List Nd} {E : List Bool} {v n : Nat} {out : List Nd} (he : E.getD n true = false) (hl : 1 < (Ak L n).lv) : AE L E (v + 1) n out = Ba (Bq (AE L E v) (Ak L n) 4 out).1 (Bq (AE L E v) (Ak L n) 4 out).2 := by
 simp only [AE, he, Bool.false_eq_true, if_false, if_pos hl]
theorem insF_one {L : List Nd} {E : List Bool} {v n : Nat} {out : List Nd} (he : E.getD n true = false) (hl : ¬ 1 < (Ak L n).lv) : AE L E (v + 1) n out = Ba out (Ak L n) := by
 simp only [AE, he, Bool.false_eq_true, if_false, if_neg hl]
theorem insK_lv (rec : Nat → List Nd → List Nd × Nat) (x : Nd) : ∀ k out, (Bq rec x k out).2.lv = x.lv
 | 0, out => rfl
 | k + 1, out => by simp only [Bq, Ci]; exact insK_lv rec x k out
theorem insK_kid (rec : Nat → List Nd → List Nd × Nat) (x : Nd) : ∀ k out j, k ≤ j → j < 4 → (Bq rec x k out).2.kid j = x.kid j
 | 0, out, j, _, _ => rfl
 | k + 1, out, j, h1, h2 => by
  simp only [Bq]
  rw [BK _ _ (by omega) h2 (by omega)]
  exact insK_kid rec x k out j (by omega) h2
theorem Rh {L : List Nd} (tk tk2 : Tok) (b id : Nat) (hL : L.length < 3518437208880) (hl : Ao L = true) : ∀ (v n d : Nat) (out : List Nd) (D : List Nat) (w : Aa) (H : Ab), n ≤ L.length → (n = 0 ∨ (Ak L n).lv.toNat = v) → v < d → b ≤ id → id < H.length → VS b id out D w H → VI L out D →
  ∃ H' D' w', Sh.fe d (.sl (enL cNd L) tk) (.sl (enL cB (Aq L)) tk2) (.int .i64 (n : Int)) w (.ms id 0 0 (L.length + 1) (L.length + 1) 1 true) H = some (.ret (.tup [w', .ms id 0 0 (L.length + 1) (L.length + 1) 1 true, .int .i64 ((AE L (Aq L) v n out).2 : Int)]), H') ∧
   VS b id (AE L (Aq L) v n out).1 D' w' H' ∧ Ext b id H H' ∧ VI L (AE L (Aq L) v n out).1 D' ∧ ∀ j, n < j → D'[j]? = D[j]? := by
 intro v
 induction v with
 | zero =>
  intro n d out D w H hn hv hd hbi hid hVS hVI
  have hb : b ≤ H.length := by omega
  obtain ⟨d, rfl⟩ : ∃ e, d = e + 1 := ⟨d - 1, by omega⟩
  have hn0 : n = 0 := by
   rcases hv with h | h
   ·exact h
   ·cases n with
    | zero => rfl
    | succ m =>
     rw [A1 (show m < L.length from hn)] at h
     have := (Ax hl (show m < L.length from hn)).1; omega
  subst hn0
  have hlt : 0 < (Aq L).length := by rw [BN]; omega
  have he : (Aq L)[0] = true := by have := CO L; rw [List.getD_eq_getElem?_getD, List.getElem?_eq_getElem hlt] at this; exact this
  refine ⟨H, D, w, ?_, hVS, Ext.refl _ _ _, hVI, fun _ _ => rfl⟩
  show Sh.f2t (Sh.fe d) _ _ _ _ _ _ = _
  unfold Sh.f2t
  simp only [GMb, GMc, Ah, Aj, Au, Nat.zero_add, Nat.add_zero, Nat.mul_one, Bl, Av hlt, List.getElem?_cons_zero, he]
  rfl
 | succ v ih =>
  intro n d out D w H hn hv hd hbi hid hVS hVI
  have hb : b ≤ H.length := by omega
  obtain ⟨d, rfl⟩ : ∃ e, d = e + 1 := ⟨d - 1, by omega⟩
  have hlt : n < (Aq L).length := by rw [BN]; omega
  have hgd : (Aq L).getD n true = (Aq L)[n] := by rw [List.getD_eq_getElem?_getD, List.getElem?_eq_getElem hlt]; rfl
  have hDn : n < D.length := by rw [hVI.len]; omega
  have hidx := Ew (sz := 1) (id := id) (n := L.length + 1) (K := .i64) (g := 0) (off := 0) (cap := L.length + 1) (ex := true) (i := n) (by omega)
  simp only [Nat.zero_add, Nat.mul_one] at hidx
  have hld := HJ (f := cN) (AY hVS.hd) hDn
  show ∃ H' D' w', Sh.f2t (Sh.fe d) _ _ _ _ _ _ = _ ∧ _
  unfold Sh.f2t
  simp only [GMb, GMc, Ah, Aj, Au, Nat.zero_add, Nat.add_zero, Nat.mul_one, Bl, Av hlt, List.getElem?_cons_zero]
  cases he : (Aq L)[n] with
  | true =>
   have e : AE L (Aq L) (v + 1) n out = (out, 0) := by simp only [AE, hgd, he, if_true]
   rw [e]
   exact ⟨H, D, w, by simp only [GMb, GMc]; rfl, hVS, Ext.refl _ _ _, hVI, fun _ _ => rfl⟩
  | false =>
   rw [he] at hgd
   simp only [GMb, GMc, hidx, hld, List.getElem?_cons_zero]
   by_cases hpos : 0 < D[n]
   ·have hi : (D[n] : Int) > 0 := by omega
    have hv' : (Ak L n).lv.toNat = v + 1 := by
     rcases hv with h | h
     ·exfalso; subst h; rw [CO] at hgd; cases hgd
     ·exact h
    have e := hVI.val n D[n] (List.getElem?_eq_getElem hDn) hpos
    rw [hv'] at e
    rw [e]
    exact ⟨H, D, w, by simp only [GMb, GMc, hi], hVS, Ext.refl _ _ _, hVI, fun _ _ => rfl⟩
   ·have hi : ¬ (D[n] : Int) > 0 := by omega
    have hD0 : D[n] = 0 := by omega
    obtain ⟨m, rfl⟩ : ∃ m, n = m + 1 := ⟨n - 1, by
     cases n with
     | zero => rw [CO] at hgd; cases hgd
     | succ n => rfl⟩
    have hm : m < L.length := hn
    have hv' : (Ak L ((m + 1 : Nat) : Int)).lv.toNat = v + 1 := by
     rcases hv with h | h
     ·omega
     ·exact h
    obtain ⟨l1, l2, l3⟩ := Ax hl hm
    have hx : Ak L ((m + 1 : Nat) : Int) = L[m] := A1 hm
    rw [hx] at hv'
    have hwm : IntKind.i64.wrap (((m + 1 : Nat) : Int) - 1) = (m : Int) := by rw [A0] <;> omega
    simp only [GMb, GMc, hi, hwm, Av hm, Gn, FW, EM (AD (B := H) (cs := cNd nd0)) rfl, Cd]
    generalize hX : L[m] = x at l1 l2 l3 hv' hx
    have hpid : H.length ≠ id := by omega
    have loop := Mx (G := fun rec1 vs H1 => Sh.f3w H (Sh.fe d) rec1 (ag vs 0) (ag vs 1) (ag vs 2) (ag vs 3) (ag vs 4) (ag vs 5) (ag vs 6) H1) (if 1 < x.lv then 4 else 0)
     (fun k vs Hc => ∃ w' D', vs = [.sl (enL cNd L) tk, .sl (enL cB (Aq L)) tk2, .int .i64 ((m + 1 : Nat) : Int), w', .ms id 0 0 (L.length + 1) (L.length + 1) 1 true, .ptr H.length 0 0, .int .i64 (k : Int)] ∧ VS b id (Bq (AE L (Aq L) v) x k out).1 D' w' Hc ∧ Hc[H.length]? = some (.cel 0 (cNd (Bq (AE L (Aq L) v) x k out).2)) ∧ Ext b id H Hc ∧ VI L (Bq (AE L (Aq L) v) x k out).1 D' ∧ (∀ j, m < j → D'[j]? = D[j]?))
     (by split <;> decide) (fun k vs Hc hk hI => ?_) (vs := [.sl (enL cNd L) tk, .sl (enL cB (Aq L)) tk2, .int .i64 ((m + 1 : Nat) : Int), w, .ms id 0 0 (L.length + 1) (L.length + 1) 1 true, .ptr H.length 0 0, .int .i64 0]) (H := H ++ [.cel 0 (cNd x)]) ⟨w, D, rfl, hVS.snoc _, by simp [Bq], Ext.snoc hb _, hVI, fun _ _ => rfl⟩
    ·obtain ⟨vs', Hc, ⟨w', D', rfl, hVS', hcell, hExt, hVI', hDD⟩, rec, hloop⟩ := loop
     rw [hloop]
     unfold Sh.f3w
     obtain ⟨tkk, rfl⟩ := hVS'.sl
     have hle := hVI'.le
     have hstop : (A7 (.bool (decide (((if 1 < x.lv then 4 else 0 : Nat) : Int) < 4))) (.bool (decide (x.lv > 1))) (.bool false)) = some (.bool false) := by
      by_cases h : 1 < x.lv <;> simp [h]
     have hlvI : (Bq (AE L (Aq L) v) x (if 1 < x.lv then 4 else 0) out).2.lv = x.lv := insK_lv _ _ _ _
     have hput : AE L (Aq L) (v + 1) (m + 1) out = Ba (Bq (AE L (Aq L) v) x (if 1 < x.lv then 4 else 0) out).1 (Bq (AE L (Aq L) v) x (if 1 < x.lv then 4 else 0) out).2 := by
      by_cases h : 1 < x.lv
      ·rw [if_pos h, insF_lv hgd (by rw [hx]; exact h), hx]
      ·rw [if_neg h, insF_one hgd (by rw [hx]; exact h), hx]; rfl
     have hpre := PY (PZ (L := L) (E := Aq L) v) x (if 1 < x.lv then 4 else 0) out
     rw [hput]
     have hagain := EP (L := L) (E := Aq L) (v + 1) (m + 1) out []
     rw [List.append_nil, hput] at hagain
     generalize (Bq (AE L (Aq L) v) x (if 1 < x.lv then 4 else 0) out) = io at *
     obtain ⟨o, y⟩ := io
     dsimp only at hVS' hcell hVI' hlvI hpre hagain hle ⊢
     have hcond : ∀ (A B : Out), (gk (.bool (decide (((if 1 < x.lv then 4 else 0 : Nat) : Int) < 4))) true (Ac 0 (.ptr H.length 0 0)) fun x29 => gk (.bool (decide (((if 1 < x.lv then 4 else 0 : Nat) : Int) < 4))) true (Ad false 1 x29 Hc) fun x30 => gk (.bool (decide (((if 1 < x.lv then 4 else 0 : Nat) : Int) < 4))) true (Af .none .gtr x30 (.int .i64 1)) fun x31 => (A7 (.bool (decide (((if 1 < x.lv then 4 else 0 : Nat) : Int) < 4))) x31 (.bool false)).bind fun x32 => Am x32 A B) = B := by
      intro A B
      by_cases h : 1 < x.lv
      ·have hf : ¬ (((4 : Nat) : Int) < 4) := by decide
       simp only [if_pos h, hf, GMb, GMc]
      ·have hf : (((0 : Nat) : Int) < 4) := by decide
       have h' : ¬ x.lv > 1 := h
       simp only [if_neg h, hf, GMb, GMc, Aj, Nat.add_zero, GO hcell, hlvI, h']
     simp only [AB, Az, AQ, Bs]
     rw [hcond]
     have hidx' : A5 1 (.ms id 0 0 (L.length + 1) (L.length + 1) 1 true) (.int .i64 ((m + 1 : Nat) : Int)) = some (.ptr id 0 (m + 1)) := hidx
     have hD'n : D'[m + 1]? = some 0 := by rw [hDD (m + 1) (by omega), List.getElem?_eq_getElem hDn, hD0]
     have hDl : m + 1 < D'.length := by rw [hVI'.len]; omega
     have hD'e : D'[m + 1] = 0 := by rw [List.getElem?_eq_getElem hDl] at hD'n; injection hD'n
     have fin : ∀ (o' : List Nd) (i : Nat) (w2 : Aa) (H2 : Ab), Ba o y = (o', i) → VS b id o' D' w2 H2 → Ext b id H H2 → VI L o D' → o'.length ≤ o.length + 1 → (∃ r, o' = o ++ r) →
       ∃ H' D'' w'', Sh.f4q H (.int .i64 ((m + 1 : Nat) : Int)) w2 (.ms id 0 0 (L.length + 1) (L.length + 1) 1 true) (.int .i64 (i : Int)) H2 = some (.ret (.tup [w'', .ms id 0 0 (L.length + 1) (L.length + 1) 1 true, .int .i64 (i : Int)]), H') ∧ VS b id o' D'' w'' H' ∧ Ext b id H H' ∧ VI L o' D'' ∧ ∀ j, m + 1 < j → D''[j]? = D[j]? := by
      intro o' i w2 H2 hp hV2 hE2 hI2 hlen ⟨r, hr⟩
      have hi0 : 0 < i := by have := JL o y; rw [hp] at this; exact this
      have hst := FG (f := cN) (sz := 1) (l := D') (i := m + 1) (a := i) (v := .int .i64 (i : Int)) (AY hV2.hd) hDl rfl
      rw [CK hV2.hd, Nat.mul_one] at hst
      have hidl := (List.getElem?_eq_some_iff.1 hV2.hd).1
      refine ⟨H2.set id (.cel 0 (flat cN (D'.set (m + 1) i))), D'.set (m + 1) i, w2, by unfold Sh.f4q; simp only [GMb, GMc, hidx', hst], ⟨?_, by simp [hidl]⟩, ⟨by simp; exact hE2.len, fun j cs hj hc => ?_, fun j hj => ?_⟩, ⟨by simp [hI2.len], ?_, ?_⟩, fun j hj => ?_⟩
      ·rcases hV2.hv with h1 | ⟨t, h1, h2, h3⟩
       ·exact .inl h1
       ·refine .inr ⟨t, h1, h2, ?_⟩
        have : id ≠ t := fun e => by have := hV2.hd; rw [e, h3] at this; cases this
        rw [List.getElem?_set_ne this]; exact h3
      ·rw [List.getElem?_set_ne (fun e => hj e.symm)]; exact hE2.cel j cs hj hc
      ·rw [List.getElem?_set_ne (by omega)]; exact hE2.old j hj
      ·rw [List.countP_set hDl]
       have := hI2.cnt
       simp only [hD'e, hi0, decide_true, if_true, Nat.lt_irrefl, decide_false, Bool.false_eq_true, if_false, Nat.sub_zero]
       omega
      ·intro j dd hj hdd
       by_cases hjm : j = m + 1
       ·subst hjm
        rw [List.getElem?_set_self hDl] at hj
        injection hj with hj
        subst hj
        rw [hx, hv']
        rw [hp] at hagain
        exact hagain
       ·rw [List.getElem?_set_ne (fun e => hjm e.symm)] at hj
        rw [hr]
        exact VI.grow hI2.val j dd hj hdd
      ·rw [List.getElem?_set_ne (by omega)]; exact hDD j (by omega)
     have hnd := q06_find o tkk y Hc (by omega)
     simp only [GMb, GMc, DG hcell, hnd]
     by_cases hf : B1 o y = 0
     ·have hp : Ba o y = (o ++ [y], o.length + 1) := by simp [Ba, hf]
      obtain ⟨w2, H2, ha, hV2, hE2⟩ := hVS'.app (Nat.le_trans hb hExt.len) y (by omega)
      obtain ⟨tk3, rfl⟩ := hV2.sl
      have h0 : ((B1 o y : Nat) : Int) = 0 := by omega
      obtain ⟨H', D'', w'', q1, q2, q3, q4, q5⟩ := fin (o ++ [y]) (o.length + 1) _ H2 hp hV2 (hExt.trans hE2) hVI' (by simp) ⟨[y], rfl⟩
      refine ⟨H', D'', w'', ?_, by rw [hp]; exact q2, q3, by rw [hp]; exact q4, q5⟩
      rw [hp, ← q1]
      simp only [GMb, GMc, h0, FU, ha, A3, List.length_append, List.length_singleton]
     ·have hp : Ba o y = (o, B1 o y) := by simp [Ba, hf]
      have h0 : ¬ ((B1 o y : Nat) : Int) = 0 := by omega
      obtain ⟨H', D'', w'', q1, q2, q3, q4, q5⟩ := fin o (B1 o y) _ Hc hp hVS' hExt hVI' (by omega) ⟨[], by simp⟩
      refine ⟨H', D'', w'', ?_, by rw [hp]; exact q2, q3, by rw [hp]; exact q4, q5⟩
      rw [hp, ← q1]
      simp only [GMb, GMc, h0]
    ·obtain ⟨w', D', rfl, hVS', hcell, hExt, hVI', hDD⟩ := hI
     have hlv : 1 < x.lv := by
      by_cases h : 1 < x.lv
      ·exact h
      ·rw [if_neg h] at hk; omega
     rw [if_pos hlv] at hk
     obtain ⟨q1, q2, q3⟩ := l3 k hk
     have hk' : (k : Int) < 4 := by omega
     have hlvI := insK_lv (AE L (Aq L) v) x k out
     have hkid := insK_kid (AE L (Aq L) v) x k out k (Nat.le_refl _) hk
     obtain ⟨c, hc⟩ := Int.eq_ofNat_of_zero_le q1
     have hcle : c ≤ m := by
      by_cases h0 : 0 < x.kid k
      ·have := (q3 hlv h0).1; omega
      ·omega
     have hclv : c = 0 ∨ (Ak L (c : Int)).lv.toNat = v := by
      by_cases h0 : 0 < x.kid k
      ·right
       obtain ⟨c', rfl⟩ : ∃ c', c = c' + 1 := ⟨c - 1, by omega⟩
       have hcl : c' < L.length := by omega
       have := (q3 hlv h0).2 L[c'] (by rw [show (x.kid k - 1).toNat = c' from by omega]; exact List.getElem?_eq_getElem hcl)
       rw [A1 hcl]; omega
      ·left; omega
     obtain ⟨H1, D1, w1, r1, r2, r3, r4, r5⟩ := ih c d (Bq (AE L (Aq L) v) x k out).1 D' w' Hc (by omega) hclv (by omega) hbi (Nat.lt_of_lt_of_le hid hExt.len) hVS' hVI'
     have hcell1 := r3.cel _ _ hpid hcell
     have hto : (x.kid k).toNat = c := by omega
     refine ⟨[.sl (enL cNd L) tk, .sl (enL cB (Aq L)) tk2, .int .i64 ((m + 1 : Nat) : Int), w1, .ms id 0 0 (L.length + 1) (L.length + 1) 1 true, .ptr H.length 0 0, .int .i64 ((k + 1 : Nat) : Int)], H1.set H.length (.cel 0 (cNd ((Bq (AE L (Aq L) v) x k out).2.setKid k ((AE L (Aq L) v c (Bq (AE L (Aq L) v) x k out).1).2 : Int)))), ⟨w1, D1, rfl, ?_, ?_, ?_, ?_, ?_⟩, fun rec => ?_⟩
     rotate_left 5
     ·unfold Sh.f3w
      simp only [AB, Az, GMb, GMc, hk', Aj, Nat.add_zero, Nat.zero_add, GO hcell, hlvI, show x.lv > 1 from hlv, Ex hk, Rr hcell hk, hkid, hc, r1, D0, ER, extract_2, C6 hcell1 hk, Aw (show k < 9223372036854775807 by omega)]
     ·simp only [Bq, hto]
      exact r2.put hcell1 hpid
     ·have hl1 := (List.getElem?_eq_some_iff.1 hcell1).1
      simp only [Bq, hto]
      rw [List.getElem?_set_self hl1]
     ·refine ⟨by simp; exact (hExt.trans r3).len, fun i cs hi hcs => ?_, fun i hi => ?_⟩
      ·have := (List.getElem?_eq_some_iff.1 hcs).1
       rw [List.getElem?_set_ne (by omega)]; exact (hExt.trans r3).cel i cs hi hcs
      ·rw [List.getElem?_set_ne (by omega)]; exact (hExt.trans r3).old i hi
     ·simp only [Bq, hto]; exact r4
     ·intro j hj; rw [r5 j (by omega)]; exact hDD j hj
end Go.Gm
namespace Go.Gm
theorem BX {H H0 : Ab} (h : ∀ i, i < H0.length → H[i]? = H0[i]?) : H.take H0.length = H0 := by
 apply List.ext_getElem?
 intro i
 by_cases hi : i < H0.length
 ·rw [List.getElem?_take_of_lt hi, h i hi]
 ·rw [List.getElem?_eq_none (by simp; omega), List.getElem?_eq_none (by omega)]
theorem Pp : ∀ (f : Nat) (L : List Nd) (n : Nat), Ao L = true → n ≤ L.length → Ao (Bm f L n).1 = true ∧ (Bm f L n).2 ≤ (Bm f L n).1.length ∧ (Bm f L n).1.length ≤ L.length + f
 | 0, L, n, hl, hn => ⟨hl, hn, Nat.le_refl _⟩
 | f + 1, L, n, hl, hn => by
  unfold Bm
  cases hh : Ct L n with
  | false => exact ⟨hl, hn, by show L.length ≤ _; omega⟩
  | true =>
   obtain ⟨h0, h2⟩ := KI hh
   obtain ⟨m, rfl⟩ : ∃ m, n = m + 1 := ⟨n - 1, by omega⟩
   rw [A1 hn] at h2
   obtain ⟨r1, r2, r3⟩ := Pp f (L ++ [Bw L (m + 1)]) (L.length + 1) (KH hl hn h2) (by simp)
   simp only [if_true]
   refine ⟨r1, r2, ?_⟩
   simp at r3; omega
theorem MD {L : List Nd} {n : Nat} (h : (Aq L).getD n true = false) : 0 < n := by
 cases n with
 | zero => rw [CO] at h; cases h
 | succ n => omega
theorem lv_le {L : List Nd} (hl : Ao L = true) {n : Nat} (h0 : 0 < n) (hn : n ≤ L.length) : (Ak L (n : Int)).lv.toNat ≤ 1329 := by
 obtain ⟨m, rfl⟩ : ∃ m, n = m + 1 := ⟨n - 1, by omega⟩
 rw [A1 hn]
 have := (Ax hl hn).2.1; omega
theorem MW {L : List Nd} {n : Nat} (hl : Ao L = true) (hn : n ≤ L.length) : Ao (Cv L n).1 = true ∧ (Cv L n).2 ≤ (Cv L n).1.length ∧ (Cv L n).1.length ≤ L.length + 1329 := by
 unfold Cv
 cases he : (Aq L).getD n true with
 | true => exact ⟨hl, Nat.zero_le _, by show L.length ≤ _; omega⟩
 | false =>
  obtain ⟨r1, r2, r3⟩ := Pp (Ak L n).lv.toNat L n hl hn
  have := lv_le hl (MD he) hn
  simp only [Bool.false_eq_true, if_false]
  exact ⟨r1, r2, by omega⟩
def BR (L : List Nd) (n : Nat) : List Nd := (AE (Cv L n).1 (Aq (Cv L n).1) (Ak (Cv L n).1 ((Cv L n).2 : Int)).lv.toNat (Cv L n).2 []).1
def O6 (L : List Nd) (n : Int) : Bool := Ao L && decide (0 ≤ n) && decide (n ≤ L.length)
theorem q06_of (L : List Nd) (tk : Tok) (n : Int) (H : Ab) (hL : L.length < 3518437200000) : Sh.fm (.sl (enL cNd L) tk) (.int .i64 n) H =
  some (.ret (if O6 L n then .tup [Lb (BR L n.toNat), .int .i64 0] else .tup [Lb [], .int .i64 1]), H) := by
 unfold Sh.fm
 rw [alloc_eq (cs := [.sl [] .tight]) rfl]
 have hcell : ∀ G : Ab, (H ++ [Blk.cel 0 [.sl [] .tight]] ++ G)[H.length]? = some (.cel 0 [.sl [] .tight]) := fun G => by simp
 have bad : ∀ (k : Aa → Ab → Out), (∀ v G, k v G = (La [Ad true 1 (.ptr H.length 0 0) G, some (.int .i64 1)]).bind fun x19 => rPN H x19 G) →
   ((A6 (some [(.sl [] .tight)]) []).bind fun x16 => bP H (AN (Al 1 (.ptr H.length 0 0) x16 (H ++ [.cel 0 [.sl [] .tight]]))) k) = some (.ret (.tup [Lb [], .int .i64 1]), H) := by
  intro k hk
  have hb : A6 (some [(.sl [] .tight)]) [] = some (.agg [.sl [] .tight]) := rfl
  simp only [GMb, GMc, hb, FH, MU (sz := 1) (cs := [.sl [] .tight]) (vs := [.sl [] .tight]) (v := .agg [.sl [] .tight]) rfl rfl rfl, Option.map_some, hk, GP, PM, List.length_singleton, resM_eq, MZ, Ps]
  simp only [DO, Fh, C4, Dn, KK, Gx, HP, M7, Ef, GMb, GMc, Option.map_some]
  rfl
 simp only [GMb, GMc, Ri L tk _ (show L.length < 1152921504606846976 by omega)]
 unfold O6
 cases hl : Ao L with
 | false =>
  simp only [GMb, GMc]
  exact bad _ fun v G => rfl
 | true =>
  simp only [GMb, GMc, A3]
  by_cases hn0 : n < 0
  ·have : ¬ 0 ≤ n := by omega
   simp only [GMb, GMc, hn0, this]
   exact bad _ fun v G => rfl
  ·have h0' : 0 ≤ n := by omega
   by_cases hn1 : n > L.length
   ·have : ¬ n ≤ L.length := by omega
    simp only [GMb, GMc, hn0, h0', hn1, this, A3]
    exact bad _ fun v G => rfl
   ·obtain ⟨n, rfl⟩ := Int.eq_ofNat_of_zero_le h0'
    have hle : n ≤ L.length := by omega
    have hle' : (n : Int) ≤ (L.length : Int) := by omega
    have hnn : ¬ (n : Int) > (L.length : Int) := hn1
    obtain ⟨s1, s2, s3⟩ := MW hl hle
    simp only [GMb, GMc, hn0, h0', hnn, hle', A3, q06_shrink L tk n _ (show L.length < 3518437200000 by omega) hl hle, D0, ER]
    unfold BR
    simp only [Int.toNat_natCast]
    generalize Cv L n = s at s1 s2 s3
    obtain ⟨M, r⟩ := s
    dsimp only at s1 s2 s3 ⊢
    have hmk := FA (f := cN) (a := 0) (n := M.length + 1) (bytes := 8) (H := H ++ [.cel 0 [.sl [] .tight]]) (by omega) (by omega)
    simp only [show cN 0 = [Aa.int .i64 0] from rfl] at hmk
    simp only [GMb, GMc, Gk M .no _ (show M.length < 140737488355327 by omega) s1, A3, Aw (show M.length < 9223372036854775807 by omega), hmk]
    have hlvv : (Ak M (r : Int)).lv.toNat < AM := by
     rw [Dm]
     by_cases hr : 0 < r
     ·have := lv_le s1 hr s2; omega
     ·obtain rfl : r = 0 := by omega
      unfold Ak
      rw [List.getD_eq_getElem?_getD]
      by_cases hM : 0 < M.length
      ·rw [show (((0 : Nat) : Int) - 1).toNat = 0 from rfl, List.getElem?_eq_getElem hM]
       have := (Ax s1 hM).2.1
       simp only [Option.getD_some]; omega
      ·rw [show (((0 : Nat) : Int) - 1).toNat = 0 from rfl, List.getElem?_eq_none (by omega)]; simp
    obtain ⟨H', D', w', v1, v2, v3, v4, v5⟩ := Rh (L := M) .no .no (H ++ [Blk.cel 0 [.sl [] .tight]]).length (H ++ [Blk.cel 0 [.sl [] .tight]]).length (by omega) s1 (Ak M (r : Int)).lv.toNat r AM [] (List.replicate (M.length + 1) 0) (.sl [] .tight) (H ++ [.cel 0 [.sl [] .tight]] ++ [.cel 0 (flat cN (List.replicate (M.length + 1) 0))])
     s2 (.inr rfl) hlvv (Nat.le_refl _) (by simp) ⟨.inl ⟨rfl, rfl⟩, AD⟩ ⟨by simp, by simp, fun j dd hj hdd => by
      have := List.mem_of_getElem? hj
      rw [List.mem_replicate] at this; omega⟩
    have hold : ∀ i, i < H.length + 1 → H'[i]? = (H ++ [Blk.cel 0 [.sl [] .tight]])[i]? := fun i hi => by
     rw [v3.old i (by simpa using hi), List.getElem?_append_left (by simpa using hi)]
    have hc' : H'[H.length]? = some (.cel 0 [.sl [] .tight]) := by rw [hold _ (by omega)]; simp
    have hcl := (List.getElem?_eq_some_iff.1 hc').1
    obtain ⟨tk3, rfl⟩ := v2.sl
    generalize (AE M (Aq M) (Ak M (r : Int)).lv.toNat r []).1 = Q at v1 v2 v4 ⊢
    have hb : A6 (some [(.sl [] .tight)]) [(0, 1, .sl (enL cNd Q) tk3)] = some (.agg [.sl (enL cNd Q) tk3]) := by simp [A6, GV, DQ]
    have hst : Al 1 (.ptr H.length 0 0) (.agg [.sl (enL cNd Q) tk3]) H' = some (H'.set H.length (.cel 0 [.sl (enL cNd Q) tk3])) := by
     simp only [Al, AY hc', Option.bind_some, CK hc']; rfl
    have hld : Ad true 1 (.ptr H.length 0 0) (H'.set H.length (.cel 0 [.sl (enL cNd Q) tk3])) = some (.agg [.sl (enL cNd Q) tk3]) := by
     have : (H'.set H.length (.cel 0 [.sl (enL cNd Q) tk3]))[H.length]? = some (.cel 0 [.sl (enL cNd Q) tk3]) := by rw [List.getElem?_set_self hcl]
     simp only [Ad, AY this, Option.bind_some]; rfl
    have htake : (H'.set H.length (.cel 0 [.sl (enL cNd Q) tk3])).take H.length = H := BX fun i hi => by
     rw [List.getElem?_set_ne (by omega), hold i (by omega), List.getElem?_append_left hi]
    simp only [GMb, GMc, v1, D0, hb, hst, hld, resM_eq, MZ, Ps, Option.map_some, FJ htake, Fh, C4, Dn, KK, Gx, HP, M7, Ef]
    rfl
end Go.Gm
namespace Go.Gm
inductive QT where
 | nil
 | leaf (a b c d : Int)
 | node (a b c d : QT)
deriving DecidableEq
def G1 (L : List Nd) (E : List Bool) : Nat → Nat → QT
 | 0, _ => .nil
 | v + 1, n =>
  if E.getD n true then .nil
  else if 1 < (Ak L n).lv then .node (G1 L E v (Ak L n).k0.toNat) (G1 L E v (Ak L n).k1.toNat) (G1 L E v (Ak L n).k2.toNat) (G1 L E v (Ak L n).k3.toNat)
  else .leaf (Ak L n).k0 (Ak L n).k1 (Ak L n).k2 (Ak L n).k3
abbrev sem (L : List Nd) (v n : Nat) : QT := G1 L (Aq L) v n
def St (a : Int) : Prop := 0 ≤ a ∧ a ≤ 255
def EH : Nat → QT → Prop
 | _, .nil => True
 | v, .leaf a b c d => v = 1 ∧ (St a ∧ St b ∧ St c ∧ St d) ∧ ¬ (a = 0 ∧ b = 0 ∧ c = 0 ∧ d = 0)
 | v, .node a b c d => 2 ≤ v ∧ v ≤ 1329 ∧ (EH (v - 1) a ∧ EH (v - 1) b ∧ EH (v - 1) c ∧ EH (v - 1) d) ∧ ¬ (a = .nil ∧ b = .nil ∧ c = .nil ∧ d = .nil)
def AA : Nat → QT → List Nd → List Nd × Nat
 | _, .nil, out => (out, 0)
 | _, .leaf a b c d, out => Ba out ⟨1, a, b, c, d⟩
 | v, .node a b c d, out =>
  Ba (AA (v - 1) d (AA (v - 1) c (AA (v - 1) b (AA (v - 1) a out).1).1).1).1
   ⟨v, (AA (v - 1) a out).2, (AA (v - 1) b (AA (v - 1) a out).1).2, (AA (v - 1) c (AA (v - 1) b (AA (v - 1) a out).1).1).2, (AA (v - 1) d (AA (v - 1) c (AA (v - 1) b (AA (v - 1) a out).1).1).1).2⟩
theorem insK_4 (rec : Nat → List Nd → List Nd × Nat) (x : Nd) (out : List Nd) : Bq rec x 4 out =
  ((rec x.k3.toNat (rec x.k2.toNat (rec x.k1.toNat (rec x.k0.toNat out).1).1).1).1,
   ⟨x.lv, (rec x.k0.toNat out).2, (rec x.k1.toNat (rec x.k0.toNat out).1).2, (rec x.k2.toNat (rec x.k1.toNat (rec x.k0.toNat out).1).1).2, (rec x.k3.toNat (rec x.k2.toNat (rec x.k1.toNat (rec x.k0.toNat out).1).1).1).2⟩) := rfl
def Lv (L : List Nd) (v n : Nat) : Prop := n ≤ L.length ∧ (n = 0 ∨ (Ak L n).lv.toNat = v)
theorem Lv.kid {L : List Nd} (hl : Ao L = true) {v n k : Nat} (h0 : 0 < n) (h : Lv L (v + 1) n) (h1 : 1 < (Ak L n).lv) (hk : k < 4) : Lv L v ((Ak L n).kid k).toNat ∧ ((Ak L n).kid k).toNat < n ∧ 0 ≤ (Ak L n).kid k := by
 obtain ⟨m, rfl⟩ : ∃ m, n = m + 1 := ⟨n - 1, by omega⟩
 have hm : m < L.length := h.1
 obtain ⟨l1, l2, l3⟩ := Ax hl hm
 have hx : Ak L ((m + 1 : Nat) : Int) = L[m] := A1 hm
 have hv := h.2
 rw [hx] at h1 hv ⊢
 obtain ⟨q1, q2, q3⟩ := l3 k hk
 by_cases hc : 0 < L[m].kid k
 ·obtain ⟨r1, r2⟩ := q3 h1 hc
  obtain ⟨c, hcc⟩ : ∃ c : Nat, L[m].kid k = ((c + 1 : Nat) : Int) := ⟨(L[m].kid k - 1).toNat, by omega⟩
  have hcl : c < L.length := by omega
  have := r2 L[c] (by rw [show (L[m].kid k - 1).toNat = c from by omega]; exact List.getElem?_eq_getElem hcl)
  rw [hcc, show (((c + 1 : Nat) : Int)).toNat = c + 1 from by omega]
  refine ⟨⟨by omega, .inr ?_⟩, by omega, by omega⟩
  rw [A1 hcl]; omega
 ·rw [show (L[m].kid k).toNat = 0 from by omega]
  exact ⟨⟨Nat.zero_le _, .inl rfl⟩, by omega, q1⟩
theorem insF_sem {L : List Nd} (hl : Ao L = true) : ∀ v n out, Lv L v n → AE L (Aq L) v n out = AA v (sem L v n) out
 | 0, n, out, h => rfl
 | v + 1, n, out, h => by
  unfold sem
  simp only [AE, G1]
  split
  ·rfl
  ·rename_i he
   have h0 : 0 < n := MD (by simpa using he)
   have hlv : (Ak L (n : Int)).lv.toNat = v + 1 := by rcases h.2 with h | h <;> omega
   split
   ·rename_i h1
    rw [insK_4]
    have e : ∀ k, k < 4 → ∀ o, AE L (Aq L) v ((Ak L n).kid k).toNat o = AA v (sem L v ((Ak L n).kid k).toNat) o := fun k hk o => insF_sem hl v _ o (Lv.kid hl h0 h h1 hk).1
    have e0 := e 0 (by omega)
    have e1 := e 1 (by omega)
    have e2 := e 2 (by omega)
    have e3 := e 3 (by omega)
    simp only [Nd.kid] at e0 e1 e2 e3
    simp only [AA, Nat.add_sub_cancel, e0, e1, e2, e3]
    have : (Ak L (n : Int)).lv = ((v + 1 : Nat) : Int) := by omega
    rw [this]
   ·rename_i h1
    have : (Ak L (n : Int)).lv = 1 := by omega
    simp only [AA]
    congr 1
    cases hx : Ak L (n : Int) with
    | mk a b c d e => rw [hx] at this; simp only at this; rw [this]
theorem KN {L : List Nd} (hl : Ao L = true) {n : Nat} (h0 : 0 < n) (hn : n ≤ L.length) : (Aq L).getD n true = (List.range 4).all fun k => decide ((Ak L n).kid k = 0) || (decide (1 < (Ak L n).lv) && (Aq L).getD ((Ak L n).kid k).toNat true) := by
 obtain ⟨m, rfl⟩ : ∃ m, n = m + 1 := ⟨n - 1, by omega⟩
 have hm : m < L.length := hn
 have hpre : ∀ (r l : List Nd), ∃ s, Aq (l ++ r) = Aq l ++ s := by
  intro r
  induction r with
  | nil => intro l; exact ⟨[], by simp⟩
  | cons x r ih =>
   intro l
   obtain ⟨s, hs⟩ := ih (l ++ [x])
   exact ⟨[Kv (Aq l) x] ++ s, by rw [show l ++ x :: r = l ++ [x] ++ r from by simp, hs, FC]; simp⟩
 have hL : L = L.take m ++ [L[m]] ++ L.drop (m + 1) := by
  rw [← List.take_succ_eq_append_getElem hm, List.take_append_drop]
 obtain ⟨s, hs⟩ := hpre (L.drop (m + 1)) (L.take m ++ [L[m]])
 rw [← hL, FC] at hs
 have hlen : (Aq (L.take m)).length = m + 1 := by rw [BN]; simp; omega
 have hat : (Aq L).getD (m + 1) true = Kv (Aq (L.take m)) L[m] := by
  rw [hs, List.getD_eq_getElem?_getD, List.getElem?_append_left (by simp [hlen]), List.getElem?_append_right (by omega), hlen]; simp
 rw [hat, A1 hm]
 obtain ⟨l1, l2, l3⟩ := Ax hl hm
 unfold Kv
 have hk : ∀ k, k < 4 → (decide (1 < L[m].lv) && (Aq (L.take m)).getD (L[m].kid k).toNat true) = (decide (1 < L[m].lv) && (Aq L).getD (L[m].kid k).toNat true) := by
  intro k hk
  obtain ⟨q1, q2, q3⟩ := l3 k hk
  by_cases h1 : 1 < L[m].lv
  ·have hlt : (L[m].kid k).toNat < m + 1 := by
    by_cases hc : 0 < L[m].kid k
    ·have := (q3 h1 hc).1; omega
    ·omega
   congr 1
   rw [hs, List.append_assoc, List.getD_eq_getElem?_getD, List.getD_eq_getElem?_getD, List.getElem?_append_left (by omega)]
  ·simp [h1]
 rw [Fp, Fp, hk 0 (by omega), hk 1 (by omega), hk 2 (by omega), hk 3 (by omega)]
theorem BM (L : List Nd) (v : Nat) : sem L v 0 = .nil := by
 unfold sem
 cases v with
 | zero => rfl
 | succ v => simp only [G1, CO, if_true]
theorem DN {L : List Nd} (hl : Ao L = true) {v n : Nat} (h : Lv L v n) : sem L v n = .nil ↔ (Aq L).getD n true = true := by
 unfold sem
 cases v with
 | zero =>
  refine ⟨fun _ => ?_, fun _ => rfl⟩
  rcases h.2 with h0 | h0
  ·rw [h0]; exact CO L
  ·by_cases hn : 0 < n
   ·obtain ⟨m, rfl⟩ : ∃ m, n = m + 1 := ⟨n - 1, by omega⟩
    have hm : m < L.length := h.1
    rw [A1 hm] at h0
    have := (Ax hl hm).1; omega
   ·obtain rfl : n = 0 := by omega
    exact CO L
 | succ v =>
  simp only [G1]
  split
  ·rename_i he; exact ⟨fun _ => he, fun _ => rfl⟩
  ·rename_i he
   split
   ·exact ⟨fun h => by (cases h), fun h => absurd h he⟩
   ·exact ⟨fun h => by (cases h), fun h => absurd h he⟩
theorem GH {L : List Nd} (hl : Ao L = true) : ∀ v n, Lv L v n → EH v (sem L v n)
 | 0, n, h => trivial
 | v + 1, n, h => by
  unfold sem
  simp only [G1]
  split
  ·trivial
  ·rename_i he
   have he' : (Aq L).getD n true = false := by simpa using he
   have h0 : 0 < n := MD he'
   have hlv : (Ak L (n : Int)).lv.toNat = v + 1 := by rcases h.2 with h | h <;> omega
   have hle := lv_le hl h0 h.1
   have hem := KN hl h0 h.1
   rw [he', Fp] at hem
   split
   ·rename_i h1
    have e : ∀ k, k < 4 → EH v (sem L v ((Ak L n).kid k).toNat) := fun k hk => GH hl v _ (Lv.kid hl h0 h h1 hk).1
    have e0 := e 0 (by omega)
    have e1 := e 1 (by omega)
    have e2 := e 2 (by omega)
    have e3 := e 3 (by omega)
    have f : ∀ k, k < 4 → sem L v ((Ak L n).kid k).toNat = .nil → (decide ((Ak L n).kid k = 0) || (decide (1 < (Ak L n).lv) && (Aq L).getD ((Ak L n).kid k).toNat true)) = true := fun k hk hs => by
     rw [DN hl (Lv.kid hl h0 h h1 hk).1] at hs; rw [hs]; simp [h1]
    refine ⟨by omega, by omega, ⟨e0, e1, e2, e3⟩, fun ⟨n0, n1, n2, n3⟩ => ?_⟩
    rw [f 0 (by omega) n0, f 1 (by omega) n1, f 2 (by omega) n2, f 3 (by omega) n3] at hem
    cases hem
   ·rename_i h1
    have hlv1 : (Ak L (n : Int)).lv = 1 := by omega
    obtain ⟨m, rfl⟩ : ∃ m, n = m + 1 := ⟨n - 1, by omega⟩
    have hm : m < L.length := h.1
    obtain ⟨l1, l2, l3⟩ := Ax hl hm
    have hx : Ak L ((m + 1 : Nat) : Int) = L[m] := A1 hm
    rw [hx] at hlv1 hem h1 ⊢
    have s : ∀ k, k < 4 → St (L[m].kid k) := fun k hk => ⟨(l3 k hk).1, (l3 k hk).2.1 hlv1⟩
    refine ⟨by rw [hx] at hlv; omega, ⟨s 0 (by omega), s 1 (by omega), s 2 (by omega), s 3 (by omega)⟩, fun ⟨n0, n1, n2, n3⟩ => ?_⟩
    simp only [Nd.kid, n0, n1, n2, n3, decide_true, Bool.true_or, Bool.and_self] at hem
    cases hem
end Go.Gm
namespace Go.Gm
structure Dt (out : List Nd) : Prop where
 lo : Ao out = true
 nd : out.Nodup
 ne : ∀ n, 0 < n → n ≤ out.length → (Aq out).getD n true = false
theorem Dt.nil : Dt [] := ⟨rfl, List.nodup_nil, fun n h1 h2 => by simp at h2; omega⟩
theorem empL_pre : ∀ (r l : List Nd), ∃ s, Aq (l ++ r) = Aq l ++ s := by
 intro r
 induction r with
 | nil => intro l; exact ⟨[], by simp⟩
 | cons x r ih =>
  intro l
  obtain ⟨s, hs⟩ := ih (l ++ [x])
  exact ⟨[Kv (Aq l) x] ++ s, by rw [show l ++ x :: r = l ++ [x] ++ r from by simp, hs, FC]; simp⟩
theorem empL_old {l r : List Nd} {n : Nat} (h : n ≤ l.length) : (Aq (l ++ r)).getD n true = (Aq l).getD n true := by
 obtain ⟨s, hs⟩ := empL_pre r l
 rw [hs, List.getD_eq_getElem?_getD, List.getD_eq_getElem?_getD, List.getElem?_append_left (by rw [BN]; omega)]
theorem Mp {l r : List Nd} {n : Nat} (h0 : 0 < n) (h : n ≤ l.length) : Ak (l ++ r) (n : Int) = Ak l (n : Int) := by
 obtain ⟨m, rfl⟩ : ∃ m, n = m + 1 := ⟨n - 1, by omega⟩
 rw [A1 (show m < (l ++ r).length by simp; omega), A1 (show m < l.length by omega), List.getElem_append_left (by omega)]
theorem CY {l r : List Nd} (hl : Ao l = true) : ∀ v n, Lv l v n → sem (l ++ r) v n = sem l v n
 | 0, n, h => rfl
 | v + 1, n, h => by
  unfold sem
  simp only [G1, empL_old h.1]
  split
  ·rfl
  ·rename_i he
   have h0 : 0 < n := MD (by simpa using he)
   rw [Mp h0 h.1]
   split
   ·rename_i h1
    have e : ∀ k, k < 4 → sem (l ++ r) v ((Ak l n).kid k).toNat = sem l v ((Ak l n).kid k).toNat := fun k hk => CY hl v _ (Lv.kid hl h0 h h1 hk).1
    have e0 := e 0 (by omega)
    have e1 := e 1 (by omega)
    have e2 := e 2 (by omega)
    have e3 := e 3 (by omega)
    simp only [Nd.kid, sem] at e0 e1 e2 e3
    rw [e0, e1, e2, e3]
   ·rfl
theorem Lv.old {l r : List Nd} {v n : Nat} (h : Lv l v n) : Lv (l ++ r) v n := by
 refine ⟨by have := h.1; simp; omega, ?_⟩
 rcases h.2 with h0 | h0
 ·exact .inl h0
 ·by_cases hn : 0 < n
  ·exact .inr (by rw [Mp hn h.1]; exact h0)
  ·exact .inl (by omega)
structure Fit (o : List Nd) (x : Nd) (v : Nat) (t : QT) : Prop where
 lv : x.lv = (v : Int)
 v1 : 1 ≤ v ∧ v ≤ 1329
 kid : (1 < v ∧ t = .node (sem o (v - 1) x.k0.toNat) (sem o (v - 1) x.k1.toNat) (sem o (v - 1) x.k2.toNat) (sem o (v - 1) x.k3.toNat) ∧ ∀ k, k < 4 → 0 ≤ x.kid k ∧ Lv o (v - 1) (x.kid k).toNat) ∨ (v = 1 ∧ t = .leaf x.k0 x.k1 x.k2 x.k3 ∧ ∀ k, k < 4 → St (x.kid k))
 ne : ∃ k, k < 4 ∧ x.kid k ≠ 0
structure Ins (v : Nat) (t : QT) (out o' : List Nd) (i : Nat) : Prop where
 pre : ∃ r, o' = out ++ r ∧ ∀ x ∈ r, x.lv ≤ (v : Int)
 cl : Dt o'
 lv : Lv o' v i
 sm : sem o' v i = t
 old : i ≤ out.length → o' = out
 new : out.length < i → i = o'.length
theorem fit_loose {o : List Nd} (hc : Dt o) {x : Nd} {v : Nat} {t : QT} (h : Fit o x v t) : Ao (o ++ [x]) = true := by
 refine EO hc.lo (PJ (by rw [h.lv]; have := h.v1; omega) (by rw [h.lv]; have := h.v1; omega) fun k hk => ?_)
 rcases h.kid with ⟨h1, _, h2⟩ | ⟨h1, _, h2⟩
 ·obtain ⟨q1, q2⟩ := h2 k hk
  refine ⟨q1, fun e => by rw [h.lv] at e; omega, fun _ hp => ?_⟩
  have hn := q2.1
  refine ⟨by omega, ?_⟩
  rcases q2.2 with q | q
  ·omega
  ·have e : x.kid k = (((x.kid k).toNat : Nat) : Int) := by omega
   obtain ⟨m, hm⟩ : ∃ m, (x.kid k).toNat = m + 1 := ⟨(x.kid k).toNat - 1, by omega⟩
   rw [e, hm] 
   rw [hm] at q
   have hml : m < o.length := by omega
   rw [A1 hml] at q ⊢
   have := (Ax hc.lo hml).1
   rw [h.lv]; omega
 ·obtain ⟨q1, q2⟩ := h2 k hk
  exact ⟨q1, fun _ => q2, fun e => by rw [h.lv] at e; omega⟩
theorem fit_ne {o : List Nd} (hc : Dt o) {x : Nd} {v : Nat} {t : QT} (h : Fit o x v t) : Kv (Aq o) x = false := by
 obtain ⟨k, hk, hkn⟩ := h.ne
 unfold Kv
 rw [List.all_eq_false]
 refine ⟨k, by simpa using hk, ?_⟩
 rcases h.kid with ⟨h1, _, h2⟩ | ⟨h1, _, h2⟩
 ·obtain ⟨q1, q2⟩ := h2 k hk
  rw [hc.ne (x.kid k).toNat (by omega) q2.1]
  simp [hkn]
 ·have : ¬ 1 < x.lv := by rw [h.lv]; omega
  simp [hkn, this]
theorem fit_sem {o : List Nd} (hc : Dt o) {x : Nd} {v : Nat} {t : QT} (h : Fit o x v t) {i : Nat} (hi : o[i]? = some x) : sem o v (i + 1) = t := by
 have hlt : i < o.length := (List.getElem?_eq_some_iff.1 hi).1
 have hx : Ak o ((i + 1 : Nat) : Int) = x := by rw [A1 hlt]; rw [List.getElem?_eq_getElem hlt] at hi; injection hi
 obtain ⟨w, rfl⟩ : ∃ w, v = w + 1 := ⟨v - 1, by have := h.v1; omega⟩
 unfold sem
 simp only [G1, hc.ne (i + 1) (by omega) (by omega), hx, h.lv, Bool.false_eq_true, if_false]
 rcases h.kid with ⟨h1, h3, h2⟩ | ⟨h1, h3, h2⟩
 ·rw [if_pos (by omega), h3]; rfl
 ·rw [if_neg (by omega), h3]
theorem Fit.old {o r : List Nd} (hc : Dt o) {x : Nd} {v : Nat} {t : QT} (h : Fit o x v t) : Fit (o ++ r) x v t := by
 refine ⟨h.lv, h.v1, ?_, h.ne⟩
 rcases h.kid with ⟨h1, h3, h2⟩ | ⟨h1, h3, h2⟩
 ·left
  refine ⟨h1, ?_, fun k hk => ⟨(h2 k hk).1, (h2 k hk).2.old⟩⟩
  have e0 := CY (r := r) hc.lo _ _ (h2 0 (by omega)).2
  have e1 := CY (r := r) hc.lo _ _ (h2 1 (by omega)).2
  have e2 := CY (r := r) hc.lo _ _ (h2 2 (by omega)).2
  have e3 := CY (r := r) hc.lo _ _ (h2 3 (by omega)).2
  simp only [Nd.kid] at e0 e1 e2 e3
  rw [e0, e1, e2, e3]; exact h3
 ·exact .inr ⟨h1, h3, h2⟩
theorem fit_clean {o : List Nd} (hc : Dt o) {x : Nd} {v : Nat} {t : QT} (h : Fit o x v t) (hn : x ∉ o) : Dt (o ++ [x]) := by
 refine ⟨fit_loose hc h, ?_, fun n h0 hle => ?_⟩
 ·rw [List.nodup_append]
  exact ⟨hc.nd, by simp, fun a ha b hb e => by simp at hb; subst hb; subst e; exact hn ha⟩
 ·by_cases hno : n ≤ o.length
  ·rw [empL_old hno]; exact hc.ne n h0 hno
  ·have e : n = o.length + 1 := by simp at hle; omega
   rw [e, FC, List.getD_eq_getElem?_getD, List.getElem?_append_right (by rw [BN]; omega), BN]
   simp [fit_ne hc h]
theorem put_ins {o : List Nd} (hc : Dt o) {x : Nd} {v : Nat} {t : QT} (h : Fit o x v t) : (∃ r, (Ba o x).1 = o ++ r ∧ ∀ y ∈ r, y = x) ∧ Dt (Ba o x).1 ∧ Lv (Ba o x).1 v (Ba o x).2 ∧ sem (Ba o x).1 v (Ba o x).2 = t ∧ ((Ba o x).1[(Ba o x).2 - 1]? = some x ∧ 0 < (Ba o x).2) ∧ (((Ba o x).1 = o ∧ (Ba o x).2 ≤ o.length) ∨ ((Ba o x).2 = o.length + 1 ∧ (Ba o x).2 = (Ba o x).1.length)) := by
 have hlv : x.lv.toNat = v := by rw [h.lv]; omega
 cases hf : B1 o x with
 | zero =>
  have hp : Ba o x = (o ++ [x], o.length + 1) := by simp [Ba, hf]
  have hn := FO.1 hf
  have hg : (o ++ [x])[o.length]? = some x := by simp
  rw [hp]
  have hc' := fit_clean hc h hn
  refine ⟨⟨[x], rfl, by simp⟩, hc', ⟨by simp, .inr ?_⟩, fit_sem hc' (h.old hc) hg, ⟨by simp, by simp⟩, .inr ⟨rfl, by simp⟩⟩
  rw [A1 (by simp)]; simp [hlv]
 | succ i =>
  have hp : Ba o x = (o, i + 1) := by simp [Ba, hf]
  rw [CD] at hf
  have hlt : i < o.length := (List.getElem?_eq_some_iff.1 hf.1).1
  rw [hp]
  refine ⟨⟨[], by simp, by simp⟩, hc, ⟨hlt, .inr ?_⟩, fit_sem hc h hf.1, ⟨by simpa using hf.1, by simp⟩, .inl ⟨rfl, hlt⟩⟩
  rw [A1 hlt]
  have := hf.1
  rw [List.getElem?_eq_getElem hlt] at this
  injection this with this
  rw [this, hlv]
theorem Dk : ∀ (t : QT) (v : Nat) (out : List Nd), EH v t → Dt out → Ins v t out (AA v t out).1 (AA v t out).2
 | .nil, v, out, hg, hc => ⟨⟨[], by simp [AA], by simp⟩, hc, ⟨Nat.zero_le _, .inl rfl⟩, BM _ _, fun _ => rfl, fun h => by simp [AA] at h⟩
 | .leaf a b c d, v, out, hg, hc => by
  obtain ⟨rfl, ⟨ha, hb, hcc, hd⟩, hne⟩ := hg
  have hfit : Fit out ⟨1, a, b, c, d⟩ 1 (.leaf a b c d) := by
   refine ⟨rfl, ⟨by omega, by omega⟩, .inr ⟨rfl, rfl, fun k hk => ?_⟩, ?_⟩
   ·match k, hk with
    | 0, _ => exact ha
    | 1, _ => exact hb
    | 2, _ => exact hcc
    | 3, _ => exact hd
   ·by_cases h0 : a = 0
    ·by_cases h1 : b = 0
     ·by_cases h2 : c = 0
      ·exact ⟨3, by omega, fun h3 => hne ⟨h0, h1, h2, h3⟩⟩
      ·exact ⟨2, by omega, h2⟩
     ·exact ⟨1, by omega, h1⟩
    ·exact ⟨0, by omega, h0⟩
  obtain ⟨⟨r, p1, p2⟩, p3, p4, p5, p6, p7⟩ := put_ins hc hfit
  refine ⟨⟨r, p1, fun x hx => by rw [p2 x hx]; simp⟩, p3, p4, p5, fun hi => ?_, fun hi => ?_⟩
  ·rcases p7 with ⟨q, _⟩ | ⟨q, _⟩
   ·exact q
   ·have : (AA 1 (.leaf a b c d) out).2 = out.length + 1 := q
    omega
  ·rcases p7 with ⟨_, q⟩ | ⟨_, q⟩
   ·have : (AA 1 (.leaf a b c d) out).2 ≤ out.length := q
    omega
   ·exact q
 | .node a b c d, v, out, hg, hc => by
  obtain ⟨h2, hv, ⟨ga, gb, gc, gd⟩, hne⟩ := hg
  have ia := Dk a (v - 1) out ga hc
  have ib := Dk b (v - 1) _ gb ia.cl
  have ic := Dk c (v - 1) _ gc ib.cl
  have id := Dk d (v - 1) _ gd ic.cl
  simp only [AA]
  generalize AA (v - 1) a out = A at ia ib ic id ⊢
  obtain ⟨o1, n0⟩ := A
  dsimp only at ia ib ic id ⊢
  generalize AA (v - 1) b o1 = B at ib ic id ⊢
  obtain ⟨o2, n1⟩ := B
  dsimp only at ib ic id ⊢
  generalize AA (v - 1) c o2 = C at ic id ⊢
  obtain ⟨o3, n2⟩ := C
  dsimp only at ic id ⊢
  generalize AA (v - 1) d o3 = D at id ⊢
  obtain ⟨o4, n3⟩ := D
  dsimp only at id ⊢
  obtain ⟨r1, e1, w1⟩ := ia.pre
  obtain ⟨r2, e2, w2⟩ := ib.pre
  obtain ⟨r3, e3, w3⟩ := ic.pre
  obtain ⟨r4, e4, w4⟩ := id.pre
  have la : Lv o4 (v - 1) n0 ∧ sem o4 (v - 1) n0 = a := by
   have : o4 = o1 ++ (r2 ++ r3 ++ r4) := by rw [e4, e3, e2]; simp
   rw [this]; exact ⟨ia.lv.old, (CY ia.cl.lo _ _ ia.lv).trans ia.sm⟩
  have lb : Lv o4 (v - 1) n1 ∧ sem o4 (v - 1) n1 = b := by
   have : o4 = o2 ++ (r3 ++ r4) := by rw [e4, e3]; simp
   rw [this]; exact ⟨ib.lv.old, (CY ib.cl.lo _ _ ib.lv).trans ib.sm⟩
  have lc : Lv o4 (v - 1) n2 ∧ sem o4 (v - 1) n2 = c := by
   rw [e4]; exact ⟨ic.lv.old, (CY ic.cl.lo _ _ ic.lv).trans ic.sm⟩
  have ld : Lv o4 (v - 1) n3 ∧ sem o4 (v - 1) n3 = d := ⟨id.lv, id.sm⟩
  have nz : ∀ {n : Nat} {t : QT}, sem o4 (v - 1) n = t → t ≠ .nil → n ≠ 0 := fun h ht h0 => ht (by rw [← h, h0, BM])
  have hfit : Fit o4 ⟨v, n0, n1, n2, n3⟩ v (.node a b c d) := by
   refine ⟨rfl, ⟨by omega, hv⟩, .inl ⟨by omega, ?_, fun k hk => ?_⟩, ?_⟩
   ·simp only [Int.toNat_natCast, la.2, lb.2, lc.2, ld.2]
   ·match k, hk with
    | 0, _ => exact ⟨Int.natCast_nonneg _, by simpa [Nd.kid] using la.1⟩
    | 1, _ => exact ⟨Int.natCast_nonneg _, by simpa [Nd.kid] using lb.1⟩
    | 2, _ => exact ⟨Int.natCast_nonneg _, by simpa [Nd.kid] using lc.1⟩
    | 3, _ => exact ⟨Int.natCast_nonneg _, by simpa [Nd.kid] using ld.1⟩
   ·by_cases h0 : a = .nil
    ·by_cases h1 : b = .nil
     ·by_cases h2 : c = .nil
      ·exact ⟨3, by omega, by have := nz ld.2 (fun h3 => hne ⟨h0, h1, h2, h3⟩); simp [Nd.kid]; omega⟩
      ·exact ⟨2, by omega, by have := nz lc.2 h2; simp [Nd.kid]; omega⟩
     ·exact ⟨1, by omega, by have := nz lb.2 h1; simp [Nd.kid]; omega⟩
    ·exact ⟨0, by omega, by have := nz la.2 h0; simp [Nd.kid]; omega⟩
  obtain ⟨⟨r, p1, p2⟩, p3, p4, p5, ⟨p6, p6'⟩, p7⟩ := put_ins id.cl hfit
  have hout : o4 = out ++ (r1 ++ r2 ++ r3 ++ r4) := by rw [e4, e3, e2, e1]; simp
  have hlen : out.length ≤ o4.length := by rw [hout]; simp
  generalize hP : Ba o4 ⟨v, n0, n1, n2, n3⟩ = P at p1 p3 p4 p5 p6 p6' p7 ⊢
  obtain ⟨o', i⟩ := P
  dsimp only at p1 p3 p4 p5 p6 p6' p7 ⊢
  have lvs : ∀ x ∈ r1 ++ r2 ++ r3 ++ r4, x.lv ≤ ((v - 1 : Nat) : Int) := by
   intro x hx
   simp only [List.mem_append] at hx
   rcases hx with ((hx | hx) | hx) | hx
   ·exact w1 x hx
   ·exact w2 x hx
   ·exact w3 x hx
   ·exact w4 x hx
  refine ⟨⟨r1 ++ r2 ++ r3 ++ r4 ++ r, by rw [p1, hout]; simp, fun x hx => ?_⟩, p3, p4, p5, fun hi => ?_, fun hi => ?_⟩
  ·rw [List.mem_append] at hx
   rcases hx with hx | hx
   ·have := lvs x hx; omega
   ·rw [p2 x hx]; exact Int.le_refl _
  ·rcases p7 with ⟨q, _⟩ | ⟨q, _⟩
   ·-- found among the old ones: its kids are old, too
    rw [q] at p6
    have hlt : i - 1 < out.length := by omega
    have hx : out[i - 1] = ⟨v, n0, n1, n2, n3⟩ := by
     rw [hout, List.getElem?_append_left hlt, List.getElem?_eq_getElem hlt] at p6
     injection p6
    obtain ⟨l1, l2, l3⟩ := Ax hc.lo hlt
    have hk : ∀ k, k < 4 → out[i - 1].kid k ≤ out.length := fun k hk => by
     obtain ⟨q1, q2, q3⟩ := l3 k hk
     by_cases hp : 0 < out[i - 1].kid k
     ·have := (q3 (by rw [hx]; show (1 : Int) < (v : Int); omega) hp).1; omega
     ·omega
    rw [hx] at hk
    have k0 : (n0 : Int) ≤ out.length := hk 0 (by omega)
    have k1 : (n1 : Int) ≤ out.length := hk 1 (by omega)
    have k2 : (n2 : Int) ≤ out.length := hk 2 (by omega)
    have k3 : (n3 : Int) ≤ out.length := hk 3 (by omega)
    have f1 := ia.old (by omega)
    have f2 := ib.old (by rw [f1]; omega)
    have f3 := ic.old (by rw [f2, f1]; omega)
    have f4 := id.old (by rw [f3, f2, f1]; omega)
    rw [q, f4, f3, f2, f1]
   ·omega
  ·rcases p7 with ⟨q, q'⟩ | ⟨_, q⟩
   ·exfalso
    rw [q] at p6
    have hin : (⟨v, n0, n1, n2, n3⟩ : Nd) ∈ r1 ++ r2 ++ r3 ++ r4 := by
     rw [hout, List.getElem?_append_right (by omega)] at p6
     exact List.mem_of_getElem? p6
    have := lvs _ hin
    have h3 : (v : Int) ≤ ((v - 1 : Nat) : Int) := this
    omega
   ·exact q
end Go.Gm
namespace Go.Gm
def QT.q : QT → Nat → QT
 | .node a b c d, k => match k with | 0 => a | 1 => b | 2 => c | _ => d
 | _, _ => .nil
def QT.s : QT → Nat → Int
 | .leaf a b c d, k => match k with | 0 => a | 1 => b | 2 => c | _ => d
 | _, _ => 0
def QT.isNode : QT → Bool
 | .node _ _ _ _ => true
 | _ => false
def Nq (t : QT) : Bool := t.isNode && (List.range 4).all fun k => (List.range 4).all fun j => decide (j = 3 - k) || (decide ((t.q k).q j = .nil) && decide ((t.q k).s j = 0))
def EQ (v : Nat) (t : QT) : QT :=
 if v = 2 then .leaf ((t.q 0).s 3) ((t.q 1).s 2) ((t.q 2).s 1) ((t.q 3).s 0) else .node ((t.q 0).q 3) ((t.q 1).q 2) ((t.q 2).q 1) ((t.q 3).q 0)
def Ej : Nat → QT → Nat × QT
 | 0, t => (0, t)
 | v + 1, t => if Nq t then Ej v (EQ (v + 1) t) else (v + 1, t)
theorem EH.q {v : Nat} {t : QT} (h : EH v t) (k : Nat) : EH (v - 1) (t.q k) := by
 cases t with
 | nil => trivial
 | leaf a b c d => trivial
 | node a b c d =>
  obtain ⟨h1, h2, ⟨ga, gb, gc, gd⟩, _⟩ := h
  unfold QT.q
  dsimp only
  split <;> assumption
theorem EH.st {v : Nat} {t : QT} (h : EH v t) (k : Nat) : St (t.s k) := by
 cases t with
 | nil => exact ⟨Int.le_refl _, by show (0 : Int) ≤ 255; decide⟩
 | node a b c d => exact ⟨Int.le_refl _, by show (0 : Int) ≤ 255; decide⟩
 | leaf a b c d =>
  obtain ⟨h1, ⟨ga, gb, gc, gd⟩, _⟩ := h
  unfold QT.s
  dsimp only
  split <;> assumption
theorem EH.kind {v : Nat} {t : QT} (h : EH v t) : t = .nil ∨ (v = 1 ∧ t.isNode = false ∧ ∃ a b c d, t = .leaf a b c d) ∨ (2 ≤ v ∧ v ≤ 1329 ∧ t.isNode = true) := by
 cases t with
 | nil => exact .inl rfl
 | leaf a b c d => exact .inr (.inl ⟨h.1, rfl, a, b, c, d, rfl⟩)
 | node a b c d => exact .inr (.inr ⟨h.1, h.2.1, rfl⟩)
theorem QT.eta {t : QT} (h : t.isNode = true) : t = .node (t.q 0) (t.q 1) (t.q 2) (t.q 3) := by
 cases t with
 | nil => cases h
 | leaf a b c d => cases h
 | node a b c d => rfl
theorem EH.some {v : Nat} {t : QT} (h : EH v t) (hn : t ≠ .nil) : ∃ j, j < 4 ∧ ((v = 1 ∧ t.s j ≠ 0) ∨ (1 < v ∧ t.q j ≠ .nil)) := by
 cases t with
 | nil => exact absurd rfl hn
 | leaf a b c d =>
  obtain ⟨h1, _, h2⟩ := h
  by_cases h0 : a = 0
  ·by_cases h3 : b = 0
   ·by_cases h4 : c = 0
    ·exact ⟨3, by omega, .inl ⟨h1, fun h5 => h2 ⟨h0, h3, h4, h5⟩⟩⟩
    ·exact ⟨2, by omega, .inl ⟨h1, h4⟩⟩
   ·exact ⟨1, by omega, .inl ⟨h1, h3⟩⟩
  ·exact ⟨0, by omega, .inl ⟨h1, h0⟩⟩
 | node a b c d =>
  obtain ⟨h1, _, _, h2⟩ := h
  by_cases h0 : a = .nil
  ·by_cases h3 : b = .nil
   ·by_cases h4 : c = .nil
    ·exact ⟨3, by omega, .inr ⟨by omega, fun h5 => h2 ⟨h0, h3, h4, h5⟩⟩⟩
    ·exact ⟨2, by omega, .inr ⟨by omega, h4⟩⟩
   ·exact ⟨1, by omega, .inr ⟨by omega, h3⟩⟩
  ·exact ⟨0, by omega, .inr ⟨by omega, h0⟩⟩
theorem holT_at {t : QT} (h : Nq t = true) {k j : Nat} (hk : k < 4) (hj : j < 4) (hne : j ≠ 3 - k) : (t.q k).q j = .nil ∧ (t.q k).s j = 0 := by
 simp only [Nq, Bool.and_eq_true, List.all_eq_true] at h
 have := h.2 k (by simpa using hk) j (by simpa using hj)
 simpa [hne] using this
theorem Oc {v : Nat} {t : QT} (h : EH (v + 1) t) (hh : Nq t = true) : EH v (EQ (v + 1) t) ∧ EQ (v + 1) t ≠ .nil := by
 have hnode : t.isNode = true := by simp only [Nq, Bool.and_eq_true] at hh; exact hh.1
 have hnn : t ≠ .nil := fun e => by subst e; cases hnode
 obtain ⟨k, hk, hkk⟩ := h.some hnn
 rcases h.kind with rfl | ⟨h1, h2, _⟩ | ⟨h1, h2, _⟩
 ·exact absurd rfl hnn
 ·rw [h2] at hnode; cases hnode
 have hq : t.q k ≠ .nil := by rcases hkk with ⟨e, _⟩ | ⟨_, e⟩; omega; exact e
 obtain ⟨j, hj, hjj⟩ := (h.q k).some hq
 simp only [Nat.add_sub_cancel] at hjj
 have hj3 : j = 3 - k := by
  by_cases e : j = 3 - k
  ·exact e
  ·exfalso
   obtain ⟨e1, e2⟩ := holT_at hh hk hj e
   rcases hjj with ⟨_, e3⟩ | ⟨_, e3⟩
   ·exact e3 e2
   ·exact e3 e1
 unfold EQ
 by_cases hv : v + 1 = 2
 ·rw [if_pos hv]
  refine ⟨⟨by omega, ⟨(h.q 0).st 3, (h.q 1).st 2, (h.q 2).st 1, (h.q 3).st 0⟩, fun ⟨e0, e1, e2, e3⟩ => ?_⟩, by simp⟩
  rcases hjj with ⟨_, e⟩ | ⟨e, _⟩
  ·rw [hj3] at e
   match k, hk with
   | 0, _ => exact e e0
   | 1, _ => exact e e1
   | 2, _ => exact e e2
   | 3, _ => exact e e3
  ·omega
 ·rw [if_neg hv]
  refine ⟨⟨by omega, by omega, ⟨(h.q 0).q 3, (h.q 1).q 2, (h.q 2).q 1, (h.q 3).q 0⟩, fun ⟨e0, e1, e2, e3⟩ => ?_⟩, by simp⟩
  rcases hjj with ⟨e, _⟩ | ⟨_, e⟩
  ·omega
  ·rw [hj3] at e
   match k, hk with
   | 0, _ => exact e e0
   | 1, _ => exact e e1
   | 2, _ => exact e e2
   | 3, _ => exact e e3
theorem shrT_ok : ∀ (v : Nat) (t : QT), EH v t → t ≠ .nil → EH (Ej v t).1 (Ej v t).2 ∧ (Ej v t).2 ≠ .nil ∧ Nq (Ej v t).2 = false
 | 0, t, hg, hn => by
  rcases hg.kind with h | ⟨h, _⟩ | ⟨h, _⟩
  ·exact absurd h hn
  ·omega
  ·omega
 | v + 1, t, hg, hn => by
  unfold Ej
  cases hh : Nq t with
  | true =>
   obtain ⟨r1, r2⟩ := Oc hg hh
   simp only [if_true]
   exact shrT_ok v _ r1 r2
  | false => simp only [Bool.false_eq_true, if_false]; exact ⟨hg, hn, hh⟩
section
variable {L : List Nd}
theorem Ra (hl : Ao L = true) {v n k : Nat} (h0 : 0 < n) (h : Lv L (v + 1) n) (h1 : 1 < (Ak L n).lv) (hk : k < 4) : (sem L (v + 1) n).q k = sem L v ((Ak L n).kid k).toNat := by
 unfold sem
 simp only [G1, if_pos h1]
 split
 ·rename_i he
  have hem := KN hl h0 h.1
  rw [he] at hem
  have := List.all_eq_true.1 hem.symm k (by simpa using hk)
  simp only [Bool.or_eq_true, decide_eq_true_eq, Bool.and_eq_true] at this
  show QT.nil = _
  rcases this with e | ⟨_, e⟩
  ·rw [e]; exact (BM L v).symm
  ·exact ((DN hl (Lv.kid hl h0 h h1 hk).1).2 e).symm
 ·match k, hk with
  | 0, _ => rfl
  | 1, _ => rfl
  | 2, _ => rfl
  | 3, _ => rfl
theorem sem_s1 (hl : Ao L = true) {v n k : Nat} (h0 : 0 < n) (h : Lv L (v + 1) n) (h1 : ¬ 1 < (Ak L n).lv) (hk : k < 4) : (sem L (v + 1) n).s k = (Ak L n).kid k := by
 unfold sem
 simp only [G1, if_neg h1]
 split
 ·rename_i he
  have hem := KN hl h0 h.1
  rw [he] at hem
  have := List.all_eq_true.1 hem.symm k (by simpa using hk)
  simp only [Bool.or_eq_true, decide_eq_true_eq, Bool.and_eq_true] at this
  rcases this with e | ⟨e, _⟩
  ·rw [e]; rfl
  ·exact absurd e h1
 ·match k, hk with
  | 0, _ => rfl
  | 1, _ => rfl
  | 2, _ => rfl
  | 3, _ => rfl
theorem hol_sem (hl : Ao L = true) {v n : Nat} (h0 : 0 < n) (h : Lv L v n) (he : (Aq L).getD n true = false) : Ct L n = Nq (sem L v n) := by
 have hv0 : (Ak L (n : Int)).lv.toNat = v := by rcases h.2 with h | h <;> omega
 have hv1 : 1 ≤ (Ak L (n : Int)).lv := by
  obtain ⟨m, rfl⟩ : ∃ m, n = m + 1 := ⟨n - 1, by omega⟩
  rw [A1 h.1]; exact (Ax hl h.1).1
 obtain ⟨w, rfl⟩ : ∃ w, v = w + 1 := ⟨v - 1, by omega⟩
 unfold Ct Nq
 by_cases h1 : 1 < (Ak L (n : Int)).lv
 ·have hnode : (sem L (w + 1) n).isNode = true := by
   unfold sem
   simp only [G1, he, Bool.false_eq_true, if_false, if_pos h1]; rfl
  have e2 : (2 : Int) ≤ (Ak L (n : Int)).lv := by omega
  rw [hnode, decide_eq_true (show n ≠ 0 by omega), decide_eq_true e2, Bool.true_and, Bool.true_and, Bool.true_and]
  unfold hol
  have hk : ∀ k, k < 4 → (decide ((Ak L n).kid k = 0) || (List.range 4).all (M3 L (Aq L) (Ak L n) k)) = (List.range 4).all fun j => decide (j = 3 - k) || (decide (((sem L (w + 1) n).q k).q j = .nil) && decide (((sem L (w + 1) n).q k).s j = 0)) := by
   intro k hk
   rw [Ra hl h0 h h1 hk]
   obtain ⟨g1, g2, g3⟩ := Lv.kid hl h0 h h1 hk
   by_cases hc : (Ak L n).kid k = 0
   ·rw [hc]
    have : (List.range 4).all (fun j => decide (j = 3 - k) || (decide ((sem L w ((0 : Int)).toNat).q j = .nil) && decide ((sem L w ((0 : Int)).toNat).s j = 0))) = true := by
     rw [show ((0 : Int)).toNat = 0 from rfl, BM, List.all_eq_true]
     intro j _
     simp [QT.q, QT.s]
    rw [this]; rfl
   ·rw [decide_eq_false hc, Bool.false_or]
    have hc0 : 0 < ((Ak L n).kid k).toNat := by omega
    have ec : (((Ak L n).kid k).toNat : Int) = (Ak L n).kid k := by omega
    have hcv : (Ak L (((Ak L n).kid k).toNat : Int)).lv.toNat = w := by rcases g1.2 with g | g <;> omega
    have hc1 : 1 ≤ (Ak L (((Ak L n).kid k).toNat : Int)).lv := by
     obtain ⟨m, hm⟩ : ∃ m, ((Ak L n).kid k).toNat = m + 1 := ⟨((Ak L n).kid k).toNat - 1, by omega⟩
     rw [hm]
     have hml : m < L.length := by have := g1.1; omega
     rw [A1 hml]; exact (Ax hl hml).1
    obtain ⟨u, rfl⟩ : ∃ u, w = u + 1 := ⟨w - 1, by omega⟩
    have pt : ∀ j, j < 4 → M3 L (Aq L) (Ak L n) k j = (decide (j = 3 - k) || (decide ((sem L (u + 1) ((Ak L n).kid k).toNat).q j = .nil) && decide ((sem L (u + 1) ((Ak L n).kid k).toNat).s j = 0))) := by
     intro j hj
     unfold M3
     congr 1
     by_cases h2 : (Ak L n).lv = 2
     ·rw [if_pos h2]
      have hn1 : ¬ 1 < (Ak L (((Ak L n).kid k).toNat : Int)).lv := by omega
      rw [sem_s1 hl hc0 g1 hn1 hj, ec]
      have hq : (sem L (u + 1) ((Ak L n).kid k).toNat).q j = .nil := by
       unfold sem
       simp only [G1, if_neg hn1]
       split <;> rfl
      rw [hq]; simp
     ·rw [if_neg h2]
      have hn1 : 1 < (Ak L (((Ak L n).kid k).toNat : Int)).lv := by omega
      obtain ⟨f1, f2, f3⟩ := Lv.kid hl hc0 g1 hn1 hj
      rw [Ra hl hc0 g1 hn1 hj, ec]
      rw [ec] at f1
      have hs : (sem L (u + 1) ((Ak L n).kid k).toNat).s j = 0 := by
       unfold sem
       simp only [G1, if_pos hn1]
       split <;> rfl
      rw [hs]
      have := DN hl f1
      rw [Bool.eq_iff_iff]
      simp only [decide_true, Bool.and_true, decide_eq_true_eq]
      exact this.symm
    rw [Fp, Fp, pt 0 (by omega), pt 1 (by omega), pt 2 (by omega), pt 3 (by omega)]
  rw [Fp, Fp (fun k => (List.range 4).all fun j => decide (j = 3 - k) || (decide (((sem L (w + 1) n).q k).q j = .nil) && decide (((sem L (w + 1) n).q k).s j = 0))), hk 0 (by omega), hk 1 (by omega), hk 2 (by omega), hk 3 (by omega)]
 ·have hnode : (sem L (w + 1) n).isNode = false := by
   unfold sem
   simp only [G1, he, Bool.false_eq_true, if_false, if_neg h1]; rfl
  have e2 : ¬ (2 : Int) ≤ (Ak L (n : Int)).lv := by omega
  rw [hnode, decide_eq_false e2]; simp

end
end Go.Gm
namespace Go.Gm
theorem Lv.num {L : List Nd} {v n : Nat} (h : Lv L v n) (h0 : 0 < n) (hl : Ao L = true) : (Ak L (n : Int)).lv = (v : Int) ∧ 1 ≤ v := by
 have hv : (Ak L (n : Int)).lv.toNat = v := by rcases h.2 with h | h <;> omega
 obtain ⟨m, rfl⟩ : ∃ m, n = m + 1 := ⟨n - 1, by omega⟩
 rw [A1 h.1] at hv ⊢
 have := (Ax hl h.1).1
 omega
theorem inn_sem {L : List Nd} (hl : Ao L = true) {w n : Nat} (h0 : 0 < n) (h : Lv L (w + 1) n) (he : (Aq L).getD n true = false) (hh : Ct L n = true) :
  Ao (L ++ [Bw L n]) = true ∧ Lv (L ++ [Bw L n]) w (L.length + 1) ∧ sem (L ++ [Bw L n]) w (L.length + 1) = EQ (w + 1) (sem L (w + 1) n) ∧ (Aq (L ++ [Bw L n])).getD (L.length + 1) true = false := by
 obtain ⟨hn1, hn2⟩ := KI hh
 obtain ⟨hlv, _⟩ := h.num h0 hl
 obtain ⟨u, rfl⟩ : ∃ u, w = u + 1 := ⟨w - 1, by omega⟩
 have h1 : 1 < (Ak L (n : Int)).lv := by omega
 have hl' : Ao (L ++ [Bw L n]) = true := by
  obtain ⟨m, rfl⟩ : ∃ m, n = m + 1 := ⟨n - 1, by omega⟩
  exact KH hl h.1 (by rw [A1 h.1] at hn2; exact hn2)
 have hx : Ak (L ++ [Bw L n]) ((L.length + 1 : Nat) : Int) = Bw L n := by rw [A1 (by simp)]; simp
 have hxl : (Bw L n).lv = (u + 1 : Nat) := by show (Ak L (n : Int)).lv - 1 = _; omega
 have hLv : Lv (L ++ [Bw L n]) (u + 1) (L.length + 1) := ⟨by simp, .inr (by rw [hx, hxl]; omega)⟩
 rw [hol_sem hl h0 h he] at hh
 obtain ⟨ig, inn⟩ := Oc (GH hl _ _ h) hh
 have hkid : ∀ k, k < 4 → (Bw L n).kid k = FM L (Ak L n) k := fun k hk => Rx L n hk
 have hne : sem (L ++ [Bw L n]) (u + 1) (L.length + 1) = EQ (u + 1 + 1) (sem L (u + 1 + 1) n) := by
  by_cases hu : u = 0
  ·subst hu
   have hx1 : ¬ 1 < (Ak (L ++ [Bw L n]) ((L.length + 1 : Nat) : Int)).lv := by rw [hx, hxl]; decide
   have hs : ∀ k, k < 4 → (sem (L ++ [Bw L n]) 1 (L.length + 1)).s k = ((sem L 2 n).q k).s (3 - k) := by
    intro k hk
    rw [sem_s1 hl' (by omega) hLv hx1 hk, hx, hkid k hk, Ra hl h0 h h1 hk]
    unfold FM
    obtain ⟨g1, g2, g3⟩ := Lv.kid hl h0 h h1 hk
    by_cases hc : (Ak L n).kid k = 0
    ·rw [if_pos hc, hc, show ((0 : Int)).toNat = 0 from rfl, BM]; rfl
    ·rw [if_neg hc]
     have hc0 : 0 < ((Ak L n).kid k).toNat := by omega
     obtain ⟨cl, _⟩ := g1.num hc0 hl
     rw [sem_s1 hl hc0 g1 (by omega) (by omega)]
     rw [show (((Ak L n).kid k).toNat : Int) = (Ak L n).kid k from by omega]
   have e : EQ 2 (sem L 2 n) = .leaf ((sem (L ++ [Bw L n]) 1 (L.length + 1)).s 0) ((sem (L ++ [Bw L n]) 1 (L.length + 1)).s 1) ((sem (L ++ [Bw L n]) 1 (L.length + 1)).s 2) ((sem (L ++ [Bw L n]) 1 (L.length + 1)).s 3) := by
    rw [hs 0 (by omega), hs 1 (by omega), hs 2 (by omega), hs 3 (by omega)]; rfl
   have hg := GH hl' 1 _ hLv
   rcases hg.kind with hk | ⟨_, _, a, b, c, d, hk⟩ | ⟨hk, _⟩
   ·exfalso
    rw [hk] at e
    rw [e] at ig
    exact ig.2.2 ⟨rfl, rfl, rfl, rfl⟩
   ·show sem (L ++ [Bw L n]) 1 (L.length + 1) = EQ 2 (sem L 2 n)
    rw [e, hk]; rfl
   ·omega
  ·have hx1 : 1 < (Ak (L ++ [Bw L n]) ((L.length + 1 : Nat) : Int)).lv := by rw [hx, hxl]; omega
   have hs : ∀ k, k < 4 → (sem (L ++ [Bw L n]) (u + 1) (L.length + 1)).q k = ((sem L (u + 1 + 1) n).q k).q (3 - k) := by
    intro k hk
    rw [Ra hl' (by omega) hLv hx1 hk, hx, hkid k hk, Ra hl h0 h h1 hk]
    unfold FM
    obtain ⟨g1, g2, g3⟩ := Lv.kid hl h0 h h1 hk
    by_cases hc : (Ak L n).kid k = 0
    ·rw [if_pos hc, hc, show ((0 : Int)).toNat = 0 from rfl, BM, BM]; rfl
    ·rw [if_neg hc]
     have hc0 : 0 < ((Ak L n).kid k).toNat := by omega
     obtain ⟨cl, _⟩ := g1.num hc0 hl
     have c1 : 1 < (Ak L (((Ak L n).kid k).toNat : Int)).lv := by omega
     have hk3 := (Lv.kid hl hc0 g1 c1 (show 3 - k < 4 by omega)).1
     rw [Ra hl hc0 g1 c1 (by omega)]
     rw [show (((Ak L n).kid k).toNat : Int) = (Ak L n).kid k from by omega] at hk3 ⊢
     exact CY hl _ _ hk3
   have e : EQ (u + 1 + 1) (sem L (u + 1 + 1) n) = .node ((sem (L ++ [Bw L n]) (u + 1) (L.length + 1)).q 0) ((sem (L ++ [Bw L n]) (u + 1) (L.length + 1)).q 1) ((sem (L ++ [Bw L n]) (u + 1) (L.length + 1)).q 2) ((sem (L ++ [Bw L n]) (u + 1) (L.length + 1)).q 3) := by
    rw [hs 0 (by omega), hs 1 (by omega), hs 2 (by omega), hs 3 (by omega)]
    unfold EQ
    rw [if_neg (by omega)]
   have hg := GH hl' (u + 1) _ hLv
   rcases hg.kind with hk | ⟨hk, _⟩ | ⟨_, _, hk⟩
   ·exfalso
    rw [hk] at e
    rw [e] at ig
    exact ig.2.2.2 ⟨rfl, rfl, rfl, rfl⟩
   ·omega
   ·rw [e]; exact QT.eta hk
 refine ⟨hl', hLv, hne, ?_⟩
 cases hq : (Aq (L ++ [Bw L n])).getD (L.length + 1) true with
 | false => rfl
 | true =>
  have := (DN hl' hLv).2 hq
  rw [hne] at this
  exact absurd this inn
theorem NT : ∀ (v : Nat) (L : List Nd) (n : Nat), Ao L = true → 0 < n → Lv L v n → (Aq L).getD n true = false →
  Ao (Bm v L n).1 = true ∧ Lv (Bm v L n).1 (Ej v (sem L v n)).1 (Bm v L n).2 ∧ 0 < (Bm v L n).2 ∧ sem (Bm v L n).1 (Ej v (sem L v n)).1 (Bm v L n).2 = (Ej v (sem L v n)).2
 | 0, L, n, hl, h0, hLv, he => by have := (hLv.num h0 hl).2; omega
 | v + 1, L, n, hl, h0, hLv, he => by
  have hs := hol_sem hl h0 hLv he
  unfold Bm Ej
  cases hh : Ct L n with
  | false =>
   rw [hh] at hs
   rw [← hs]
   exact ⟨hl, hLv, h0, rfl⟩
  | true =>
   rw [hh] at hs
   rw [← hs]
   obtain ⟨r1, r2, r3, r4⟩ := inn_sem hl h0 hLv he hh
   simp only [if_true]
   rw [← r3]
   exact NT v _ _ r1 (by omega) r2 r4
def CU (v : Nat) (t : QT) : List Nd := if t = .nil then [] else (AA (Ej v t).1 (Ej v t).2 []).1
theorem Eh {L : List Nd} (hl : Ao L = true) {v n : Nat} (h : Lv L v n) : BR L n = CU v (sem L v n) := by
 unfold BR CU Cv
 cases he : (Aq L).getD n true with
 | true =>
  rw [(DN hl h).2 he]
  simp only [if_true]
  cases (Ak L ((0 : Nat) : Int)).lv.toNat with
  | zero => rfl
  | succ w => simp only [AE, CO, if_true]
 | false =>
  have h0 := MD he
  have hn : sem L v n ≠ .nil := fun e => by rw [(DN hl h).1 e] at he; cases he
  obtain ⟨hlv, hv1⟩ := h.num h0 hl
  obtain ⟨r1, r2, r3, r4⟩ := NT v L n hl h0 h he
  rw [if_neg hn]
  have hv : (Ak L (n : Int)).lv.toNat = v := by omega
  simp only [Bool.false_eq_true, if_false, hv]
  have hlv2 := (r2.num r3 r1).1
  rw [show (Ak (Bm v L n).1 ((Bm v L n).2 : Int)).lv.toNat = (Ej v (sem L v n)).1 from by omega, insF_sem r1 _ _ _ r2, r4]
theorem nodup_dup {L : List Nd} (h : Dt L) : dupB L = true := by
 unfold dupB
 rw [List.all_eq_true]
 intro i hi
 have hi' : i < L.length := by simpa using hi
 rw [h.ne (i + 1) (by omega) (by omega)]
 simp only [Bool.not_false, Bool.true_and, List.all_eq_true, decide_eq_true_eq]
 intro k hk
 have hk' : k < i := by simpa using hk
 simp only [List.getD_eq_getElem?_getD, List.getElem?_eq_getElem hi', List.getElem?_eq_getElem (show k < L.length by omega), Option.getD_some]
 intro e
 exact (List.pairwise_iff_getElem.1 h.nd) k i (by omega) hi' hk' e.symm
def KU (n : Nat) : List Nat := (List.range n).map (· + 1)
theorem QO (n : Nat) : KU (n + 1) = KU n ++ [n + 1] := by simp [KU, List.range_succ]
theorem Mu {n i : Nat} : i ∈ KU n ↔ 1 ≤ i ∧ i ≤ n := by
 simp only [KU, List.mem_map, List.mem_range]
 constructor
 ·rintro ⟨j, h1, h2⟩; omega
 ·intro h; exact ⟨i - 1, by omega, by omega⟩
theorem endK_4 (rec : Nat → List Nat → List Nat) (x : Nd) (out : List Nat) : Ku rec x 4 out =
  (if 1 < x.lv ∧ 0 < x.k3 then rec x.k3.toNat (if 1 < x.lv ∧ 0 < x.k2 then rec x.k2.toNat (if 1 < x.lv ∧ 0 < x.k1 then rec x.k1.toNat (if 1 < x.lv ∧ 0 < x.k0 then rec x.k0.toNat out else out) else (if 1 < x.lv ∧ 0 < x.k0 then rec x.k0.toNat out else out)) else (if 1 < x.lv ∧ 0 < x.k1 then rec x.k1.toNat (if 1 < x.lv ∧ 0 < x.k0 then rec x.k0.toNat out else out) else (if 1 < x.lv ∧ 0 < x.k0 then rec x.k0.toNat out else out))) else (if 1 < x.lv ∧ 0 < x.k2 then rec x.k2.toNat (if 1 < x.lv ∧ 0 < x.k1 then rec x.k1.toNat (if 1 < x.lv ∧ 0 < x.k0 then rec x.k0.toNat out else out) else (if 1 < x.lv ∧ 0 < x.k0 then rec x.k0.toNat out else out)) else (if 1 < x.lv ∧ 0 < x.k1 then rec x.k1.toNat (if 1 < x.lv ∧ 0 < x.k0 then rec x.k0.toNat out else out) else (if 1 < x.lv ∧ 0 < x.k0 then rec x.k0.toNat out else out)))) := by
 simp only [NC, Nd.kid, show Ku rec x 0 out = out from rfl]
theorem M2 {v : Nat} {t : QT} {out : List Nd} (h : t ≠ .nil) : 0 < (AA v t out).2 := by
 cases t with
 | nil => exact absurd rfl h
 | leaf a b c d => exact JL _ _
 | node a b c d => exact JL _ _
theorem MC : ∀ (t : QT) (v : Nat) (out s L : List Nd), EH v t → t ≠ .nil → Dt out → L = (AA v t out).1 ++ s → DV L v (AA v t out).2 (KU out.length) = KU (AA v t out).1.length
 | .nil, v, out, s, L, hg, hn, hc, hL => absurd rfl hn
 | .leaf a b c d, v, out, s, L, hg, hn, hc, hL => by
  have hi := Dk (.leaf a b c d) v out hg hc
  have hp := M2 (v := v) (out := out) hn
  obtain ⟨rfl, _, _⟩ := hg
  by_cases hle : (AA 1 (.leaf a b c d) out).2 ≤ out.length
  ·have := hi.old hle
   simp only [DV]
   rw [if_pos (Mu.2 ⟨hp, hle⟩), this]
  ·have hnew := hi.new (by omega)
   have hform : (AA 1 (.leaf a b c d) out).1.length = out.length + 1 := by
    have h1 : AA 1 (.leaf a b c d) out = Ba out ⟨1, a, b, c, d⟩ := rfl
    rw [h1] at hle ⊢
    unfold Ba at hle ⊢
    split
    ·simp
    ·rename_i hf; rw [if_neg hf] at hle; exact absurd (findN_le _ _) hle
   have hx : ¬ 1 < (Ak L ((AA 1 (.leaf a b c d) out).2 : Int)).lv := by
    rw [hL, Mp hp (by omega)]
    intro h
    have := hi.lv.num hp hi.cl.lo
    omega
   simp only [DV]
   rw [if_neg (fun h => by have := Mu.1 h; omega), endK_4]
   simp only [hx, false_and, if_false]
   rw [hform, QO, hnew, hform]
 | .node a b c d, v, out, s, L, hg, hn, hc, hL => by
  have hi := Dk (.node a b c d) v out hg hc
  have hp := M2 (v := v) (out := out) hn
  obtain ⟨h2, hv, ⟨ga, gb, gc, gd⟩, hne⟩ := hg
  obtain ⟨w, rfl⟩ : ∃ w, v = w + 1 := ⟨v - 1, by omega⟩
  by_cases hle : (AA (w + 1) (.node a b c d) out).2 ≤ out.length
  ·have := hi.old hle
   simp only [DV]
   rw [if_pos (Mu.2 ⟨hp, hle⟩), this]
  ·have hnew := hi.new (by omega)
   have ga : EH w a := ga
   have gb : EH w b := gb
   have gc : EH w c := gc
   have gd : EH w d := gd
   have ia := Dk a w out ga hc
   have ib := Dk b w _ gb ia.cl
   have ic := Dk c w _ gc ib.cl
   have id := Dk d w _ gd ic.cl
   have hform : AA (w + 1) (.node a b c d) out = Ba (AA w d (AA w c (AA w b (AA w a out).1).1).1).1 ⟨(w + 1 : Nat), (AA w a out).2, (AA w b (AA w a out).1).2, (AA w c (AA w b (AA w a out).1).1).2, (AA w d (AA w c (AA w b (AA w a out).1).1).1).2⟩ := rfl
   obtain ⟨ra, ea, _⟩ := ia.pre
   obtain ⟨rb, eb, _⟩ := ib.pre
   obtain ⟨rc, ec, _⟩ := ic.pre
   obtain ⟨rd, ed, _⟩ := id.pre
   have hput : (AA (w + 1) (.node a b c d) out).1 = (AA w d (AA w c (AA w b (AA w a out).1).1).1).1 ++ [⟨(w + 1 : Nat), (AA w a out).2, (AA w b (AA w a out).1).2, (AA w c (AA w b (AA w a out).1).1).2, (AA w d (AA w c (AA w b (AA w a out).1).1).1).2⟩] := by
    rw [hform] at hle hnew ⊢
    unfold Ba at hle hnew ⊢
    split
    ·rfl
    ·rename_i hf
     exfalso
     rw [if_neg hf] at hle hnew
     dsimp only at hle hnew
     cases hfn : B1 (AA w d (AA w c (AA w b (AA w a out).1).1).1).1 ⟨(w + 1 : Nat), (AA w a out).2, (AA w b (AA w a out).1).2, (AA w c (AA w b (AA w a out).1).1).2, (AA w d (AA w c (AA w b (AA w a out).1).1).1).2⟩ with
     | zero => exact hf hfn
     | succ i =>
      rw [hfn] at hle
      have h3 := (CD.1 hfn).1
      obtain ⟨r1, e1, w1⟩ := ia.pre
      obtain ⟨r2, e2, w2⟩ := ib.pre
      obtain ⟨r3, e3, w3⟩ := ic.pre
      obtain ⟨r4, e4, w4⟩ := id.pre
      have hout : (AA w d (AA w c (AA w b (AA w a out).1).1).1).1 = out ++ (r1 ++ r2 ++ r3 ++ r4) := by
       conv => lhs; rw [e4]
       conv => lhs; arg 1; rw [e3]
       conv => lhs; arg 1; arg 1; rw [e2]
       conv => lhs; arg 1; arg 1; arg 1; rw [e1]
       simp
      rw [hout, List.getElem?_append_right (by omega)] at h3
      have hm := List.mem_of_getElem? h3
      have : ((w + 1 : Nat) : Int) ≤ (w : Int) := by
       simp only [List.mem_append] at hm
       rcases hm with ((hm | hm) | hm) | hm
       ·exact w1 _ hm
       ·exact w2 _ hm
       ·exact w3 _ hm
       ·exact w4 _ hm
      omega
   have hlast : Ak L ((AA (w + 1) (.node a b c d) out).2 : Int) = ⟨(w + 1 : Nat), (AA w a out).2, (AA w b (AA w a out).1).2, (AA w c (AA w b (AA w a out).1).1).2, (AA w d (AA w c (AA w b (AA w a out).1).1).1).2⟩ := by
    rw [hL, Mp hp (by omega), hnew, hput]
    simp only [List.length_append, List.length_singleton]
    rw [A1 (by simp)]; simp
   have step : ∀ (t : QT) (o : List Nd) (s' : List Nd), EH w t → Dt o → L = (AA w t o).1 ++ s' → (∀ (out s L : List Nd), EH w t → t ≠ .nil → Dt out → L = (AA w t out).1 ++ s → DV L w (AA w t out).2 (KU out.length) = KU (AA w t out).1.length) →
     (if 1 < ((w + 1 : Nat) : Int) ∧ 0 < ((AA w t o).2 : Int) then DV L w ((AA w t o).2 : Int).toNat (KU o.length) else KU o.length) = KU (AA w t o).1.length := by
    intro t o s' gt hco hLo ih
    by_cases ht : t = .nil
    ·subst ht; simp [AA]
    ·have hp' := M2 (v := w) (out := o) ht
     rw [if_pos ⟨by omega, by omega⟩, Int.toNat_natCast]
     exact ih o s' L gt ht hco hLo
   have hLd : L = (AA w d (AA w c (AA w b (AA w a out).1).1).1).1 ++ ([⟨(w + 1 : Nat), (AA w a out).2, (AA w b (AA w a out).1).2, (AA w c (AA w b (AA w a out).1).1).2, (AA w d (AA w c (AA w b (AA w a out).1).1).1).2⟩] ++ s) := by rw [hL, hput]; simp
   have hLc := hLd
   conv at hLc => rhs; arg 1; rw [ed]
   rw [List.append_assoc] at hLc
   have hLb := hLc
   conv at hLb => rhs; arg 1; rw [ec]
   rw [List.append_assoc] at hLb
   have hLa := hLb
   conv at hLa => rhs; arg 1; rw [eb]
   rw [List.append_assoc] at hLa
   have sa := step a out _ ga hc hLa (fun o s L => MC a w o s L)
   have sb := step b _ _ gb ia.cl hLb (fun o s L => MC b w o s L)
   have sc := step c _ _ gc ib.cl hLc (fun o s L => MC c w o s L)
   have sd := step d _ _ gd ic.cl hLd (fun o s L => MC d w o s L)
   simp only [DV]
   rw [if_neg (fun h => by have := Mu.1 h; omega), hlast, endK_4]
   dsimp only
   rw [sa, sb, sc, sd, hnew, hput]
   simp only [List.length_append, List.length_singleton, QO]
theorem MJ {v : Nat} {t : QT} (hg : EH v t) : C9 (CU v t) = true ∧ (t ≠ .nil → Dt (CU v t) ∧ 0 < (CU v t).length ∧ Lv (CU v t) (Ej v t).1 (CU v t).length ∧ sem (CU v t) (Ej v t).1 (CU v t).length = (Ej v t).2) := by
 by_cases hn : t = .nil
 ·subst hn; exact ⟨by simp [CU, C9], fun h => absurd rfl h⟩
 ·obtain ⟨s1, s2, s3⟩ := shrT_ok v t hg hn
  have e : CU v t = (AA (Ej v t).1 (Ej v t).2 []).1 := by unfold CU; rw [if_neg hn]
  rw [e]
  generalize Ej v t = vt at s1 s2 s3
  obtain ⟨w, u⟩ := vt
  dsimp only at s1 s2 s3 ⊢
  have hi := Dk u w [] s1 Dt.nil
  have hp := M2 (v := w) (out := []) s2
  have hnew := hi.new (by simpa using hp)
  have hend := MC u w [] [] _ s1 s2 Dt.nil (List.append_nil _).symm
  have hlv := hi.lv
  have hsm := hi.sm
  rw [hnew] at hlv hsm hp hend
  generalize (AA w u []).1 = Q at *
  have hcl := hi.cl
  obtain ⟨q1, q2⟩ := hlv.num hp hcl.lo
  refine ⟨?_, fun _ => ⟨hcl, hp, hlv, hsm⟩⟩
  have hne : Q ≠ [] := fun h => by rw [h] at hp; simp at hp
  have htop : (CX Q).toNat = w := by unfold CX; omega
  have hord : LC Q = KU Q.length := by unfold LC; rw [htop]; exact hend
  unfold C9
  rw [hcl.lo, hol_sem hcl.lo hp hlv (hcl.ne _ hp (Nat.le_refl _)), hsm, s3, nodup_dup hcl]
  have : Nf Q = true := by
   unfold Nf
   rw [hord]
   have hlen : (KU Q.length).length = Q.length := by simp [KU]
   simp only [hlen, decide_true, Bool.and_true, List.all_eq_true, decide_eq_true_eq]
   intro i hi
   have hi' : i < Q.length := by simpa using hi
   simp [KU, List.getD_eq_getElem?_getD, hi']
  rw [this]; simp [hne]
end Go.Gm
namespace Go.Gm
theorem q01_cut (l : List Bool) (tk : Tok) (H : Ab) (hb : l.length < 1152921504606846976) : Sh.fs (.sl (enL cB l) tk) H = some (.ret (.sl (enL cB (F4 l)) .no), H) := by
 unfold Sh.fs
 refine Bt (σ := List Bool × Tok) (fun s => s.1.length < 1152921504606846976) (fun s => [.sl (enL cB s.1) s.2]) (fun _ => H) (fun s => s.1.length) (fun s => some (.ret (.sl (enL cB (F4 s.1)) .no), H)) (fun s rec hs hrec => ?_) (l, tk) hb hb
 obtain ⟨l, tk⟩ := s
 simp only at hs hrec ⊢
 unfold Sh.f4y
 rcases L8 l with rfl | ⟨l', b, rfl⟩
 ·simp [cutL_nil]
 ·simp only [List.length_append, List.length_singleton] at hs hrec
  have h1 : l'.length < (l' ++ [b]).length := by simp
  have h2 : ((((l' ++ [b]).length : Nat) : Int) > 0) := by simp
  have h3 : IntKind.i64.wrap ((((l' ++ [b]).length : Nat) : Int) - 1) = (l'.length : Int) := by rw [A0] <;> simp <;> omega
  simp only [AB, A3, Option.bind_some, Db, h2, decide_true, Iv, EA, h3, Av h1, Au, List.getElem?_cons_zero, Jo, BQ, List.getElem_append_right (Nat.le_refl _), Nat.sub_self, List.getElem_cons_zero]
  cases b with
  | true => simp [NE]
  | false =>
   have := hrec (l', JE tk 0 l'.length (l' ++ [false]).length false) (by dsimp only; omega) (by simp)
   simp only [Bool.not_false, AO, slice_to (Nat.le_of_lt h1), Option.bind_some, List.take_left', this, LS]
theorem q01_bits (l : List Nat) (tk : Tok) (H : Ab) (hl : l.length ≤ 2199023255552) (hx : Lim l) : Sh.ft (.sl (enL cU l) tk) H = some (.ret (.sl (enL cB (F4 (Bg l))) .no), H) := by
 unfold Sh.ft
 refine Cp l.length (fun i => [.sl (enL cU l) tk, Fq cB H (Bg (l.take i)), .int .i64 (i : Int)]) (fun i => En cB El 1 H (Bg (l.take i))) _ (by omega) (fun rec i hi => ?_) (fun rec => ?_)
 ·have hi' : (i : Int) < (l.length : Int) := by omega
  have hxi : l[i] < 4294967296 := hx _ (List.getElem_mem hi)
  have htk : Bg (l.take (i + 1)) = Bg (l.take i) ++ Ch 32 l[i] := by
   rw [List.take_succ_eq_append_getElem hi, Bg, List.flatMap_append]; simp [Bg]
  have hlen : (Bg (l.take i)).length ≤ 32 * 2199023255552 := by rw [C3]; simp; omega
  unfold Sh.f2q
  simp only [AB, CW, Ds, A3, Option.bind_some, AQ, hi', decide_true, AO, Av hi, Au, List.getElem?_cons_zero, htk]
  generalize Bg (l.take i) = o at hlen
  generalize l[i] = x at hxi
  refine Bt (σ := Nat × Nat × List Bool) (fun s => s.1 ≤ 32 ∧ s.2.1 < 4294967296 ∧ s.2.2.length ≤ o.length + s.1) (fun s => [.sl (enL cU l) tk, Fq cB H s.2.2, .int .i64 (i : Int), .int .u32 (s.2.1 : Int), .int .i64 (s.1 : Int)]) (fun s => En cB El 1 H s.2.2) (fun s => 32 - s.1)
   (fun s => rec [.sl (enL cU l) tk, Fq cB H (s.2.2 ++ Ch (32 - s.1) s.2.1), .int .i64 ((i + 1 : Nat) : Int)] (En cB El 1 H (s.2.2 ++ Ch (32 - s.1) s.2.1))) (fun s rec2 hs hrec => ?_) (0, x, o) ⟨by dsimp only; omega, hxi, by dsimp only; omega⟩ (by dsimp only; omega)
  obtain ⟨k, y, p⟩ := s
  obtain ⟨hk, hy, hp⟩ := hs
  simp only at hk hy hp hrec ⊢
  unfold Sh.f4i
  by_cases h : k < 32
  ·have h' : (k : Int) < 32 := by omega
   have e1 : (y : Int).tmod 2 = ((y % 2 : Nat) : Int) := rfl
   have e2 : IntKind.u32.wrap ((y : Int).tdiv 2) = ((y / 2 : Nat) : Int) := by rw [show (y : Int).tdiv 2 = ((y / 2 : Nat) : Int) from rfl, De] <;> omega
   have e3 : (((y % 2 : Nat) : Int) == 1) = (y % 2 == 1) := by rw [Bool.eq_iff_iff]; simp only [beq_iff_eq]; omega
   have e4 : IntKind.i64.wrap ((k : Int) + 1) = ((k + 1 : Nat) : Int) := by rw [A0] <;> omega
   have := hrec (k + 1, y / 2, p ++ [y % 2 == 1]) ⟨h, by dsimp only; omega, by simp; omega⟩ (by dsimp only; omega)
   simp only [AB, CW, Ds, FX, G9, AQ, h', decide_true, Option.bind_some, AO, Ij (show (2 : Int) ≠ 0 by decide), KR (show (2 : Int) ≠ 0 by decide), e1, e2, D5, e3, build_B]
   rw [Il (by simp) (by simp; omega) (by simp; omega)]
   simp only [C8, DA, BE, Option.bind_some, e4, this]
   rw [show 32 - k = (32 - (k + 1)) + 1 from by omega, Ch]; simp
  ·have : k = 32 := by omega
   subst this
   have e4 : IntKind.i64.wrap ((i : Int) + 1) = ((i + 1 : Nat) : Int) := by rw [A0] <;> omega
   simp [Ch, e4]
 ·unfold Sh.f2q
  obtain ⟨G, hG⟩ := Mj (f := cB) (ty := El) (sz := 1) H (Bg l)
  rw [List.take_of_length_le (Nat.le_refl _)]
  simp only [AB, CW, Ds, Hz, hG, A3, Option.bind_some, AQ, Int.lt_irrefl, decide_false, AL, q01_cut (Bg l) _ _ (by rw [C3]; omega), DA, DO, KM, Option.map_some]
end Go.Gm
namespace Go.Gm
theorem q01_of (l : List Bool) (tk : Tok) (H : Ab) (hl : l.length ≤ 70368744177664) : Sh.f25 (.sl (enL cB l) tk) H = some (.ret (.sl (enL cU (CA (Dc l))) .no), H) := by
 unfold Sh.f25
 have hcl := cutL_le l
 rw [q01_cut l tk H (by omega), ← limbsOf_eq, HM]
 simp only [DA]
 generalize F4 l = c at hcl
 obtain ⟨n, hn⟩ : ∃ n, n = (c.length + 31) / 32 := ⟨_, rfl⟩
 rw [← hn]
 refine Cp n (fun q => [.sl (enL cB c) .no, Fq cU H (CB c q), .int .i64 ((32 * q : Nat) : Int)]) (fun q => En cU DY 1 H (CB c q)) _ (by omega) (fun rec q hq => ?_) (fun rec => ?_)
 ·have hq' : ((32 * q : Nat) : Int) < (c.length : Int) := by omega
  unfold Sh.f4k
  simp only [AB, CW, Ds, A3, Option.bind_some, AQ, hq', decide_true, AO]
  have hlo : (CB c q).length = q := Km c q
  rw [HL]
  generalize CB c q = o at hlo
  refine Bt (σ := Nat) (fun j => j ≤ min 32 (c.length - 32 * q)) (fun j => [.sl (enL cB c) .no, Fq cU H o, .int .i64 ((32 * q : Nat) : Int), .int .u32 ((Dc ((c.drop (32 * q)).take j) : Nat) : Int), .int .u32 (IntKind.u32.wrap ((2 : Int) ^ j)), .int .i64 ((32 * q + j : Nat) : Int)]) (fun _ => En cU DY 1 H o) (fun j => 32 - j)
   (fun _ => rec [.sl (enL cB c) .no, Fq cU H (o ++ [Eq c q]), .int .i64 ((32 * (q + 1) : Nat) : Int)] (En cU DY 1 H (o ++ [Eq c q]))) (fun j rec2 hj hrec => ?_) 0 (by omega) (by omega)
  unfold Sh.f4z
  have hw : IntKind.i64.wrap (((32 * q : Nat) : Int) + 32) = ((32 * (q + 1) : Nat) : Int) := by rw [A0] <;> omega
  by_cases h : j < min 32 (c.length - 32 * q)
  ·have h1 : ((32 * q + j : Nat) : Int) < (c.length : Int) := by omega
   have h1' : 32 * q + j < c.length := by omega
   have h2 : ((32 * q + j : Nat) : Int) < ((32 * (q + 1) : Nat) : Int) := by omega
   have hw2 : IntKind.i64.wrap (((32 * q + j : Nat) : Int) + 1) = ((32 * q + (j + 1) : Nat) : Int) := by rw [A0] <;> omega
   have htake : (c.drop (32 * q)).take (j + 1) = (c.drop (32 * q)).take j ++ [c[32 * q + j]] := by
    rw [List.take_succ_eq_append_getElem (by simp; omega)]; simp
   have hlen : ((c.drop (32 * q)).take j).length = j := by simp; omega
   have hnat : Dc ((c.drop (32 * q)).take (j + 1)) = Dc ((c.drop (32 * q)).take j) + (if c[32 * q + j] then 2 ^ j else 0) := by
    rw [htake, Fc, hlen]; simp only [Dc]; split <;> simp
   have hlt1 := nat1_lt ((c.drop (32 * q)).take j)
   rw [hlen] at hlt1
   have hp : (2 : Nat) ^ j * 2 ≤ 2 ^ 32 := by rw [← Nat.pow_succ]; exact Nat.pow_le_pow_right (by omega) (by omega)
   have hpw : IntKind.u32.wrap ((2 : Int) ^ j) = ((2 ^ j : Nat) : Int) := by
    rw [show ((2 : Int) ^ j) = ((2 ^ j : Nat) : Int) from by simp, De] <;> omega
   have hadd : IntKind.u32.wrap (((Dc ((c.drop (32 * q)).take j) : Nat) : Int) + ((2 ^ j : Nat) : Int)) = ((Dc ((c.drop (32 * q)).take j) + 2 ^ j : Nat) : Int) := by rw [De] <;> omega
   have hmul : IntKind.u32.wrap (((2 ^ j : Nat) : Int) * 2) = IntKind.u32.wrap ((2 : Int) ^ (j + 1)) := by rw [Int.pow_succ]; simp
   have := hrec (j + 1) (by omega) (by omega)
   rw [hnat] at this
   simp only [AB, CW, Ds, FX, G9, Ll, A3, Option.bind_some, AQ, h1, decide_true, Iv, BE, hw, h2, BQ, AO, AS, Av h1', Au, List.getElem?_cons_zero, hpw]
   cases hb : c[32 * q + j] with
   | true =>
    rw [hb] at this
    simp only [AO, BE, hadd, Option.bind_some, AB, CW, Ds, FX, G9, Ll, Sh.f4j, Gz, hmul, hw2]
    simpa using this
   | false =>
    rw [hb] at this
    simp only [AL, AB, CW, Ds, FX, G9, Ll, Sh.f4j, Gz, BE, hmul, hw2, Option.bind_some]
    simpa using this
  ·have hj' : j = min 32 (c.length - 32 * q) := by omega
   have hx : Dc ((c.drop (32 * q)).take j) = Eq c q := by
    unfold Eq
    by_cases h : j = 32
    ·rw [h]
    ·rw [List.take_of_length_le (by simp; omega), List.take_of_length_le (by simp; omega)]
   have tail : ((AH 1 [.int .u32 ((Eq c q : Nat) : Int)]).bind fun x40 => bP H (BF (AI DY 1 4 (Fq cU H o) x40 (En cU DY 1 H o))) fun x41 H42 => (Af .none .add (.int .i64 ((32 * q : Nat) : Int)) (.int .i64 32)).bind fun x43 => rec [.sl (enL cB c) .no, x41, x43] H42)
     = rec [.sl (enL cB c) .no, Fq cU H (o ++ [Eq c q]), .int .i64 ((32 * (q + 1) : Nat) : Int)] (En cU DY 1 H (o ++ [Eq c q])) := by
    rw [build_U]
    simp only [Option.bind_some]
    rw [Il (by simp) (by simp; omega) (by simp; omega)]
    simp only [C8, DA, BE, Option.bind_some, hw]
   rw [hx]
   by_cases h1 : ((32 * q + j : Nat) : Int) < (c.length : Int)
   ·have h2 : ¬ ((32 * q + j : Nat) : Int) < ((32 * (q + 1) : Nat) : Int) := by omega
    simp only [AB, CW, Ds, FX, G9, Ll, A3, Option.bind_some, AQ, h1, decide_true, Iv, BE, hw, h2, decide_false, BQ, AL]
    simpa only [BE, hw, Option.bind_some] using tail
   ·simp only [AB, CW, Ds, FX, G9, Ll, A3, Option.bind_some, AQ, h1, decide_false, Oe, BZ, AL]
    exact tail
 ·have hq' : ¬ ((32 * n : Nat) : Int) < (c.length : Int) := by omega
  obtain ⟨G, hG⟩ := Mj (f := cU) (ty := DY) (sz := 1) H (CB c n)
  unfold Sh.f4k
  simp only [AB, CW, Ds, Hz, hG, A3, Option.bind_some, AQ, hq', decide_false, AL, DO, KM, Option.map_some]
theorem q01_norm (l : List Nat) (tk : Tok) (H : Ab) (hl : l.length ≤ 1099511627776) (hx : Lim l) : Sh.fd (.sl (enL cU l) tk) H = some (.ret (.sl (enL cU (CA (val l))) .no), H) := by
 have hc := cutL_le (Bg l)
 rw [C3] at hc
 unfold Sh.fd
 rw [q01_bits l tk H (by omega) hx]
 simp only [Fv]
 rw [q01_of _ _ _ (by omega)]
 simp only [Fv, JK, R5, PD, val_bits l hx]
end Go.Gm
namespace Go.Gm
end Go.Gm
namespace Go.Gm
def EG (z : Int) : List Aa := [.bool (decide (z < 0)), .sl (enL cU (CA z.natAbs)) .no]
def big (z : Int) : Aa := .agg (EG z)
def LB (z : Int) : Prop := (CA z.natAbs).length ≤ 549755813888
theorem RT (z : Int) : (EG z).all Aa.isScal = true := by simp [EG]
@[simp] theorem bigC_g0 (z : Int) (h : 0 < (EG z).length) : (EG z)[0] = .bool (decide (z < 0)) := (rfl)
@[simp] theorem bigC_g1 (z : Int) (h : 1 < (EG z).length) : (EG z)[1] = .sl (enL cU (CA z.natAbs)) .no := (rfl)
@[simp] theorem bigC_0 (z : Int) : (EG z)[0]? = some (.bool (decide (z < 0))) := (rfl)
@[simp] theorem bigC_1 (z : Int) : (EG z)[1]? = some (.sl (enL cU (CA z.natAbs)) .no) := (rfl)
@[simp] theorem big_acells (z : Int) : (big z).acells = some (EG z) := EW (RT z)
theorem big_sgn (neg : Bool) (n : Nat) : [Aa.bool (sgn neg n), .sl (enL cU (CA n)) .no] = EG (if neg then -(n : Int) else n) := by
 unfold EG
 have e1 : sgn neg n = decide ((if neg then -(n : Int) else (n : Int)) < 0) := by
  unfold sgn
  cases neg with
  | false => simp
  | true =>
   by_cases h : n = 0
   ·subst h; rfl
   ·have : (-(n : Int)) < 0 := by omega
    simp [h, this]; omega
 have e2 : (if neg then -(n : Int) else (n : Int)).natAbs = n := by cases neg <;> simp
 rw [e1, e2]
theorem limsLen_pos (n : Nat) : (decide (((CA n).length : Int) > 0)) = decide (n ≠ 0) := by
 by_cases h : n = 0
 ·subst h; rw [KF]; rfl
 ·have := List.length_pos_iff.2 (lims_ne h)
  have h1 : ((CA n).length : Int) > 0 := by omega
  rw [decide_eq_true h1, decide_eq_true h]
@[simp] theorem fcells_big {H : Ab} {n d : Nat} {z : Int} : DU H n (d + 2) (EG z) = some (EG z) := by simp [EG]
@[simp] theorem fall_big {H : Ab} {n d : Nat} {z : Int} : Ft H n (d + 3) (big z) = some (big z) := by simp [big]
@[simp] theorem fpart_big {H : Ab} {n d : Nat} {z : Int} : E3 H n (d + 3) (big z) = some (big z) := by simp [big]
@[simp] theorem forget_big {z : Int} : forget (big z) = big z := by simp [big, EG]
@[simp] theorem bigC_length (z : Int) : (EG z).length = 2 := (rfl)
@[simp] theorem agg_bigC (z : Int) : Aa.agg (EG z) = big z := (rfl)
@[simp] theorem putN_big (cs : List Aa) (z : Int) (h : cs.length = 2) : DQ cs 0 2 (EG z) = EG z := JM h
theorem boxBig (z : Int) (H : Ab) : Ek true 2 (big z) H = some (.ptr H.length 0 0, H ++ [.cel 0 (EG z)]) := Ig (RT z) rfl
theorem q02_sign (neg : Bool) (l : List Nat) (tk : Tok) (H : Ab) (hl : l.length ≤ 1099511627776) (hx : Lim l) : Sh.f26 (.bool neg) (.sl (enL cU l) tk) H = some (.ret (big (if neg then -(val l : Int) else val l)), H) := by
 unfold Sh.f26 big
 rw [← big_sgn]
 have hp := limsLen_pos (val l)
 cases neg with
 | false => simp [q01_norm _ _ _ hl hx, A6, GV, DQ, sgn, EW]
 | true =>
  simp only [Iv, BQ, Option.bind_some, A3, Db, hp, sgn, Bool.true_and, alloc_eq (cs := [.bool false, .sl [] .tight]) rfl, BP, q01_norm _ _ _ hl hx, DA]
  simp [A6, GV, DQ, EW]
theorem big_eq (z : Int) : big z = .agg [.bool (decide (z < 0)), .sl (enL cU (CA z.natAbs)) .no] := rfl
theorem LB.neg {a : Int} (h : LB a) : LB (-a) := by unfold LB at *; rwa [Int.natAbs_neg]
end Go.Gm
namespace Go.Gm
theorem QL {n : Int} (h0 : -18446744073709551616 ≤ n) (h : n < 0) : IntKind.u64.wrap n = n + 18446744073709551616 := by
 have h1 : IntKind.u64.bits = 64 := rfl
 have h2 : IntKind.u64.signed = false := rfl
 unfold IntKind.wrap
 simp only [h1, h2, Bool.false_and, Bool.false_eq_true, if_false]
 omega
theorem build_2U (x y : Nat) : AH 1 [.int .u32 (x : Int), .int .u32 (y : Int)] = some (.sl (enL cU [x, y]) .tight) := by simp [AH, Cb, LO, Bp, Aa.acells, enL]
theorem q02_of (n : Int) (H : Ab) (h0 : -9223372036854775808 ≤ n) (h1 : n ≤ 9223372036854775807) : Sh.f27 (.int .i64 n) H = some (.ret (big n), H) := by
 obtain ⟨u, hu⟩ : ∃ u : Nat, u = n.natAbs := ⟨_, rfl⟩
 have hlim : Lim [u % 4294967296, u / 4294967296] := fun x hx => by
  simp at hx
  rcases hx with rfl | rfl <;> omega
 have hval : val [u % 4294967296, u / 4294967296] = u := by simp [val]; omega
 have ez : (if decide (n < 0) = true then -(u : Int) else (u : Int)) = n := by
  by_cases h : n < 0 <;> simp [h] <;> omega
 have a1 := fun H => q02_sign (decide (n < 0)) [u % 4294967296, u / 4294967296] .tight H (by simp) hlim
 simp only [hval, ez] at a1
 have e1 : ((u : Int).tmod 4294967296) = ((u % 4294967296 : Nat) : Int) := rfl
 have e2 : IntKind.u64.wrap ((u : Int).tdiv 4294967296) = ((u / 4294967296 : Nat) : Int) := by rw [show (u : Int).tdiv 4294967296 = ((u / 4294967296 : Nat) : Int) from rfl, CI] <;> omega
 have e3 : IntKind.u32.wrap ((u % 4294967296 : Nat) : Int) = ((u % 4294967296 : Nat) : Int) := by rw [De] <;> omega
 have e4 : IntKind.u32.wrap ((u / 4294967296 : Nat) : Int) = ((u / 4294967296 : Nat) : Int) := by rw [De] <;> omega
 have j1 : Sh.f4l H (.int .i64 n) (.ptr H.length 0 0) (.int .u64 (u : Int)) (H ++ [.cel 0 [.bool false, .sl [] .tight]]) = some (.ret (big n), H) := by
  unfold Sh.f4l
  simp only [AQ, Option.bind_some, Ij (show (4294967296 : Int) ≠ 0 by decide), KR (show (4294967296 : Int) ≠ 0 by decide), e1, e2, BU, e3, e4, build_2U, a1, DA]
  simp
 unfold Sh.f27
 simp only [alloc_eq (cs := [.bool false, .sl [] .tight]) rfl, BP, BU, Option.bind_some, AS, AQ, AB, CW, Ds]
 by_cases h : n < 0
 ·have w : IntKind.u64.wrap (0 - IntKind.u64.wrap n) = (u : Int) := by
   rw [QL (n := n) (by omega) h, QL (by omega) (by omega)]; omega
  have un : unA .neg (.int .u64 (IntKind.u64.wrap n)) = some (.int .u64 (u : Int)) := by
   rw [show unA .neg (.int .u64 (IntKind.u64.wrap n)) = some (.int .u64 (IntKind.u64.wrap (0 - IntKind.u64.wrap n))) from rfl, w]
  rw [decide_eq_true h]
  simp only [AO, un, Option.bind_some, AB, CW, Ds]
  exact j1
 ·have w : IntKind.u64.wrap n = (u : Int) := by rw [CI (by omega) (by omega)]; omega
  rw [decide_eq_false h]
  simp only [AL, w, AB, CW, Ds]
  exact j1
end Go.Gm
namespace Go.Gm
def Row1 (v : Aa) (H : Ab) (l : List Nat) : Prop := AG v = some (.int .i64 (l.length : Int)) ∧ ∀ (i : Nat) (h : i < l.length), ∃ p, A5 1 v (.int .i64 (i : Int)) = some p ∧ ∀ G, Ad false 1 p (H ++ G) = some (.int .u32 (l[i] : Int))
theorem row_ms {l : List Nat} {H : Ab} {id : Nat} (hg : H[id]? = some (.cel 0 (flat cU l))) : Row1 (.ms id 0 0 l.length l.length 1 true) H l := by
 refine ⟨rfl, fun i h => ?_⟩
 have hidx := Ew (sz := 1) (id := id) (n := l.length) (K := .i64) (g := 0) (off := 0) (cap := l.length) (ex := true) (i := i) h
 simp only [Nat.zero_add, Nat.mul_one] at hidx
 exact ⟨_, hidx, fun G => load_left (HJ (f := cU) (AY hg) h)⟩
theorem q01_bitsR {v : Aa} {H : Ab} {l : List Nat} (hv : Row1 v H l) (hl : l.length ≤ 2199023255552) (hx : Lim l) : Sh.ft v H = some (.ret (.sl (enL cB (F4 (Bg l))) .no), H) := by
 unfold Sh.ft
 refine Cp l.length (fun i => [v, Fq cB H (Bg (l.take i)), .int .i64 (i : Int)]) (fun i => En cB El 1 H (Bg (l.take i))) _ (by omega) (fun rec i hi => ?_) (fun rec => ?_)
 ·have hi' : (i : Int) < (l.length : Int) := by omega
  have hxi : l[i] < 4294967296 := hx _ (List.getElem_mem hi)
  have htk : Bg (l.take (i + 1)) = Bg (l.take i) ++ Ch 32 l[i] := by
   rw [List.take_succ_eq_append_getElem hi, Bg, List.flatMap_append]; simp [Bg]
  have hlen : (Bg (l.take i)).length ≤ 32 * 2199023255552 := by rw [C3]; simp; omega
  obtain ⟨p, hp1, hp2⟩ := hv.2 i hi
  obtain ⟨G, hG⟩ := Mj (f := cB) (ty := El) (sz := 1) H (Bg (l.take i))
  have hld : Ad false 1 p (En cB El 1 H (Bg (l.take i))) = some (.int .u32 (l[i] : Int)) := by rw [hG]; exact hp2 G
  unfold Sh.f2q
  simp only [AB, CW, Ds, hv.1, Bs, AQ, hi', decide_true, AO, hp1, hld, htk]
  generalize Bg (l.take i) = o at hlen
  generalize l[i] = x at hxi
  refine Bt (σ := Nat × Nat × List Bool) (fun s => s.1 ≤ 32 ∧ s.2.1 < 4294967296 ∧ s.2.2.length ≤ o.length + s.1) (fun s => [v, Fq cB H s.2.2, .int .i64 (i : Int), .int .u32 (s.2.1 : Int), .int .i64 (s.1 : Int)]) (fun s => En cB El 1 H s.2.2) (fun s => 32 - s.1)
   (fun s => rec [v, Fq cB H (s.2.2 ++ Ch (32 - s.1) s.2.1), .int .i64 ((i + 1 : Nat) : Int)] (En cB El 1 H (s.2.2 ++ Ch (32 - s.1) s.2.1))) (fun s rec2 hs hrec => ?_) (0, x, o) ⟨by dsimp only; omega, hxi, by dsimp only; omega⟩ (by dsimp only; omega)
  obtain ⟨k, y, p⟩ := s
  obtain ⟨hk, hy, hp⟩ := hs
  simp only at hk hy hp hrec ⊢
  unfold Sh.f4i
  by_cases h : k < 32
  ·have h' : (k : Int) < 32 := by omega
   have e1 : (y : Int).tmod 2 = ((y % 2 : Nat) : Int) := rfl
   have e2 : IntKind.u32.wrap ((y : Int).tdiv 2) = ((y / 2 : Nat) : Int) := by rw [show (y : Int).tdiv 2 = ((y / 2 : Nat) : Int) from rfl, De] <;> omega
   have e3 : decide (((y % 2 : Nat) : Int) = 1) = (y % 2 == 1) := by rw [Bool.eq_iff_iff]; simp only [beq_iff_eq, decide_eq_true_eq]; omega
   have e4 : IntKind.i64.wrap ((k : Int) + 1) = ((k + 1 : Nat) : Int) := by rw [A0] <;> omega
   have := hrec (k + 1, y / 2, p ++ [y % 2 == 1]) ⟨h, by dsimp only; omega, by simp; omega⟩ (by dsimp only; omega)
   simp only [AB, CW, Ds, FX, G9, AQ, h', decide_true, Bs, AO, Ij (show (2 : Int) ≠ 0 by decide), KR (show (2 : Int) ≠ 0 by decide), e1, e2, D5, EB, e3, build_B]
   rw [Il (by simp) (by simp; omega) (by simp; omega)]
   simp only [C8, DA, BE, Bs, e4, this]
   rw [show 32 - k = (32 - (k + 1)) + 1 from by omega, Ch]; simp
  ·have : k = 32 := by omega
   subst this
   have e4 : IntKind.i64.wrap ((i : Int) + 1) = ((i + 1 : Nat) : Int) := by rw [A0] <;> omega
   simp [Ch, e4]
 ·unfold Sh.f2q
  obtain ⟨G, hG⟩ := Mj (f := cB) (ty := El) (sz := 1) H (Bg l)
  rw [List.take_of_length_le (Nat.le_refl _)]
  simp only [AB, CW, Ds, Hz, hG, hv.1, Bs, AQ, Int.lt_irrefl, decide_false, AL, q01_cut (Bg l) _ _ (by rw [C3]; omega), DA, DO, KM, Option.map_some]
theorem q01_normR {v : Aa} {H : Ab} {l : List Nat} (hv : Row1 v H l) (hl : l.length ≤ 1099511627776) (hx : Lim l) : Sh.fd v H = some (.ret (.sl (enL cU (CA (val l))) .no), H) := by
 have hc := cutL_le (Bg l)
 rw [C3] at hc
 unfold Sh.fd
 rw [q01_bitsR hv (by omega) hx]
 simp only [Fv]
 rw [q01_of _ _ _ (by omega)]
 simp only [Fv, JK, R5, PD, val_bits l hx]
end Go.Gm
namespace Go.Gm
theorem OZ (a : Nat) (l : List Nat) : val (a :: l) = a + 4294967296 * val l := rfl
theorem div_step {m a v : Nat} (hm : 0 < m) : (a + 4294967296 * v) / m = (v % m * 4294967296 + a) / m + 4294967296 * (v / m) ∧ (a + 4294967296 * v) % m = (v % m * 4294967296 + a) % m := by
 have h := Nat.div_add_mod v m
 have e : a + 4294967296 * v = (v % m * 4294967296 + a) + m * (4294967296 * (v / m)) := by
  conv => lhs; rw [← h]
  rw [Nat.mul_add, Nat.mul_left_comm]
  omega
 rw [e, Nat.add_mul_div_left _ _ hm, Nat.add_mul_mod_self_left]
 exact ⟨rfl, rfl⟩
theorem quo_lt {m a r : Nat} (hr : r < m) (ha : a < 4294967296) : (r * 4294967296 + a) / m < 4294967296 := by
 rw [Nat.div_lt_iff_lt_mul (by omega)]
 have : (r + 1) * 4294967296 ≤ m * 4294967296 := Nat.mul_le_mul_right _ hr
 omega
theorem q01_div (l : List Nat) (tk : Tok) (m : Nat) (H : Ab) (hl : l.length ≤ 1099511627776) (hx : Lim l) (hm0 : 0 < m) (hm : m < 4294967296) :
  Sh.f28 (.sl (enL cU l) tk) (.int .u32 (m : Int)) H = some (.ret (.tup [.sl (enL cU (CA (val l / m))) .no, .int .u32 ((val l % m : Nat) : Int)]), H) := by
 unfold Sh.f28
 have hm0' : ¬ (m : Int) = 0 := by omega
 have hmk := FA (f := cU) (a := 0) (n := l.length) (bytes := 4) (H := H) (by omega) (by omega)
 simp only [show cU 0 = [Aa.int .u32 0] from rfl] at hmk
 have hcm : ∀ n : Int, AZ .u64 (.int .u32 (m : Int)) = some (.int .u64 (m : Int)) := fun _ => by rw [BU, CI (by omega) (by omega)]
 simp only [GMb, GMc, hm0', A3, hmk]
 have hw0 : IntKind.i64.wrap ((l.length : Int) - 1) = (l.length : Int) - 1 := A0 (by omega) (by omega)
 rw [hw0]
 have key := Bt (G := fun rec1 vs H1 => Sh.f4m H rec1 (ag vs 0) (ag vs 1) (ag vs 2) (ag vs 3) (ag vs 4) H1) (σ := Nat × List Nat) (fun s => s.1 ≤ l.length ∧ s.2.length = l.length ∧ Lim s.2 ∧ val (s.2.drop s.1) = val (l.drop s.1) / m)
  (fun s => [.sl (enL cU l) tk, .int .u32 (m : Int), .ms H.length 0 0 l.length l.length 1 true, .int .u64 ((val (l.drop s.1) % m : Nat) : Int), .int .i64 ((s.1 : Int) - 1)]) (fun s => H ++ [.cel 0 (flat cU s.2)]) (fun s => s.1)
  (fun _ => some (.ret (.tup [.sl (enL cU (CA (val l / m))) .no, .int .u32 ((val l % m : Nat) : Int)]), H)) (fun s rec hs hrec => ?_) (l.length, List.replicate l.length 0) ⟨Nat.le_refl _, by simp, fun x hx => by have := (List.mem_replicate.1 hx).2; omega, by simp [val]⟩ (by dsimp only; omega)
 ·simp only [List.drop_length, show val [] = 0 from rfl, Nat.zero_mod] at key
  exact key
 ·obtain ⟨k, O⟩ := s
  obtain ⟨h1, h2, h3, h4⟩ := hs
  simp only at h1 h2 h3 h4 hrec ⊢
  unfold Sh.f4m
  cases k with
  | zero =>
   have hrow := row_ms (l := O) (H := H ++ [Blk.cel 0 (flat cU O)]) (id := H.length) AD
   rw [h2] at hrow
   have hn := q01_normR hrow (by omega) h3
   have hv : val O = val l / m := by simpa using h4
   have hlt : val l % m < m := Nat.mod_lt _ hm0
   have hcv : AZ .u32 (.int .u64 ((val l % m : Nat) : Int)) = some (.int .u32 ((val l % m : Nat) : Int)) := by rw [BU, De (by omega) (by omega)]
   simp only [GMb, GMc, Az, show ¬ (((0 : Nat) : Int) - 1 ≥ 0) from by decide, hn, List.drop_zero, hcv, hv, DO, Fh, C4, Dn, Kr, Ef, Option.map_some]
  | succ j =>
   have hj : j < l.length := h1
   have hi : ((j + 1 : Nat) : Int) - 1 = (j : Int) := by omega
   have ha := hx _ (List.getElem_mem hj)
   have hd : l.drop j = l[j] :: l.drop (j + 1) := List.drop_eq_getElem_cons hj
   have hr : val (l.drop (j + 1)) % m < m := Nat.mod_lt _ hm0
   obtain ⟨s1, s2⟩ := div_step (m := m) (a := l[j]) (v := val (l.drop (j + 1))) hm0
   have hq := quo_lt (m := m) (a := l[j]) (r := val (l.drop (j + 1)) % m) hr ha
   have hmul : val (l.drop (j + 1)) % m * 4294967296 ≤ 4294967295 * 4294967296 := Nat.mul_le_mul_right _ (by omega)
   generalize hrr : val (l.drop (j + 1)) % m = r at *
   have w1 : IntKind.u64.wrap ((r : Int) * 4294967296) = ((r * 4294967296 : Nat) : Int) := by rw [CI] <;> omega
   have w2 : AZ .u64 (.int .u32 (l[j] : Int)) = some (.int .u64 (l[j] : Int)) := by rw [BU, CI (by omega) (by omega)]
   have w3 : IntKind.u64.wrap (((r * 4294967296 : Nat) : Int) + (l[j] : Int)) = ((r * 4294967296 + l[j] : Nat) : Int) := by rw [CI] <;> omega
   have w4 : IntKind.u64.wrap (((r * 4294967296 + l[j] : Nat) : Int).tdiv (m : Int)) = (((r * 4294967296 + l[j]) / m : Nat) : Int) := by
    rw [show (((r * 4294967296 + l[j] : Nat) : Int).tdiv (m : Int)) = (((r * 4294967296 + l[j]) / m : Nat) : Int) from rfl, CI (Int.natCast_nonneg _) (Int.lt_of_lt_of_le (Int.ofNat_lt.2 hq) (by decide))]
   have w5 : AZ .u32 (.int .u64 (((r * 4294967296 + l[j]) / m : Nat) : Int)) = some (.int .u32 (((r * 4294967296 + l[j]) / m : Nat) : Int)) := by rw [BU, De (Int.natCast_nonneg _) (Int.ofNat_lt.2 hq)]
   have w6 : (((r * 4294967296 + l[j] : Nat) : Int).tmod (m : Int)) = (((r * 4294967296 + l[j]) % m : Nat) : Int) := rfl
   have w7 : IntKind.i64.wrap ((j : Int) - 1) = (j : Int) - 1 := A0 (by omega) (by omega)
   have hidx := Ew (sz := 1) (id := H.length) (n := l.length) (K := .i64) (g := 0) (off := 0) (cap := l.length) (ex := true) (i := j) hj
   simp only [Nat.zero_add, Nat.mul_one] at hidx
   have hst := FG (f := cU) (sz := 1) (l := O) (i := j) (a := (r * 4294967296 + l[j]) / m) (v := .int .u32 (((r * 4294967296 + l[j]) / m : Nat) : Int)) (H := H ++ [Blk.cel 0 (flat cU O)]) (id := H.length) (AY AD) (by omega) rfl
   rw [Nat.mul_one, CK AD, Cd] at hst
   have hge : ((j : Int) ≥ 0) := by omega
   have hmz : (m : Int) ≠ 0 := hm0'
   have := hrec (j, O.set j ((r * 4294967296 + l[j]) / m)) ⟨by omega, by simp [h2], fun x hxx => by
     rcases List.mem_or_eq_of_mem_set hxx with h | h
     ·exact h3 x h
     ·rw [h]; exact hq, by
     dsimp only
     rw [hd, OZ, s1, List.drop_set, if_neg (by omega), Nat.sub_self, List.drop_eq_getElem_cons (by omega : j < O.length), List.set_cons_zero, OZ, h4]⟩ (by dsimp only; omega)
   dsimp only at this
   rw [hd, OZ, s2] at this
   rw [hi]
   simp only [GMb, GMc, Az, hge, w1, Av hj, Au, List.getElem?_cons_zero, w2, w3, hcm 0, KR hmz, w4, w5, hidx, hst, and_true, eq_self, Ij hmz, w6, w7]
   exact this
end Go.Gm
namespace Go.Gm
def AU (n : Nat) : List UInt8 := if h : n < 10 then [UInt8.ofNat (48 + n)] else AU (n / 10) ++ [UInt8.ofNat (48 + n % 10)]
termination_by n
decreasing_by omega
def LR (z : Int) : List UInt8 := if z < 0 then 45 :: AU z.natAbs else AU z.natAbs
theorem decN_len : ∀ n, (AU n).length ≤ n + 1 := by
 intro n
 induction n using Nat.strongRecOn with
 | ind n ih =>
  unfold AU
  split
  ·simp
  ·have := ih (n / 10) (by omega)
   simp; omega
theorem decN_log : ∀ (k n : Nat), n < 10 ^ (k + 1) → (AU n).length ≤ k + 1 := by
 intro k
 induction k with
 | zero => intro n h; unfold AU; rw [dif_pos (by omega)]; simp
 | succ k ih =>
  intro n h
  unfold AU
  split
  ·simp
  ·have h2 : n / 10 < 10 ^ (k + 1) := by
    rw [Nat.div_lt_iff_lt_mul (by omega), ← Nat.pow_succ]; exact h
   have := ih (n / 10) h2
   simp; omega
theorem RH (k n : Nat) (h : n < 10 ^ k) : (AU n).length ≤ k + (if k = 0 then 1 else 0) := by
 cases k with
 | zero => have := decN_log 0 n (by omega); simpa using this
 | succ k => have := decN_log k n h; simpa using this
theorem digit_u8 {d : Nat} (h : d < 10) : AZ .u8 (.int .u32 (IntKind.u32.wrap (48 + (d : Int)))) = some (.int .u8 ((UInt8.ofNat (48 + d)).toNat : Int)) := by
 rw [BU, De (by omega) (by omega), wrap_u8 (by omega) (by omega), UInt8.toNat_ofNat_of_lt' (show 48 + d < 256 by omega)]
 rfl
theorem pow10_32 (k : Nat) : 10 ^ k ≤ 4294967296 ^ k := Nat.pow_le_pow_left (by omega) k
theorem PR {n : Nat} (h : n < 10 ^ 4096) : (CA n).length ≤ 4096 := lims_len (Nat.lt_of_lt_of_le h (pow10_32 4096))
theorem q03_text (z : Int) (H : Ab) (hz : z.natAbs < 10 ^ 4096) : Sh.f29 (big z) H = some (.ret (.str (LR z)), H) := by
 unfold Sh.f29
 have g0 : Ad false 1 (.ptr H.length 0 0) (H ++ [Blk.cel 0 (EG z)]) = some (.bool (decide (z < 0))) := by simp only [Ad, AY AD, Option.bind_some]; rfl
 have g1 : Ad false 1 (.ptr H.length 0 1) (H ++ [Blk.cel 0 (EG z)]) = some (.sl (enL cU (CA z.natAbs)) .no) := by simp only [Ad, AY AD, Option.bind_some]; rfl
 simp only [GMb, GMc, boxBig, Aj, Nat.zero_add, g1]
 have hmeas : ∀ n : Nat, n < 10 ^ 4096 → (AU n).length ≤ 4096 := fun n h => RH 4096 n h
 have key := Bt (G := fun rec1 vs H1 => Sh.f4n H rec1 (ag vs 0) (ag vs 1) (ag vs 2) H1) (σ := Nat × List UInt8) (fun s => s.1 < 10 ^ 4096 ∧ s.2.length + (AU s.1).length ≤ 5000)
  (fun s => [.ptr H.length 0 0, .str s.2, .sl (enL cU (CA s.1)) .no]) (fun _ => H ++ [.cel 0 (EG z)]) (fun s => (AU s.1).length)
  (fun s => some (.ret (.str ((if z < 0 then [45] else []) ++ AU s.1 ++ s.2)), H)) (fun s rec hs hrec => ?_) (z.natAbs, []) ⟨hz, by have := hmeas _ hz; simp; omega⟩ (by have := hmeas _ hz; dsimp only; omega)
 ·refine key.trans ?_
  unfold LR
  dsimp only
  split <;> simp
 ·obtain ⟨n, s⟩ := s
  obtain ⟨h1, h2⟩ := hs
  simp only at h1 h2 hrec ⊢
  have hdiv := fun H => q01_div (CA n) .no 10 H (by have := PR h1; omega) (lim_lims n) (by omega) (by omega)
  simp only [GA, show ((10 : Nat) : Int) = 10 from rfl] at hdiv
  have hd : n % 10 < 10 := Nat.mod_lt _ (by omega)
  have hdig := digit_u8 hd
  unfold Sh.f4n
  simp only [GMb, GMc, Az, hdiv, D0, ER, hdig, build_Y, toStr_enL]
  rw [B5 (by simp; omega)]
  simp only [GMb, GMc, A3]
  by_cases hn : n < 10
  ·have h0 : n / 10 = 0 := by omega
   have hm : n % 10 = n := by omega
   have hdn : AU n = [UInt8.ofNat (48 + n)] := by unfold AU; rw [dif_pos hn]
   rw [hdn, h0, KF, hm]
   simp only [GMb, GMc, List.length_nil, show ((0 : Nat) : Int) = 0 from rfl, Aj, Nat.add_zero, g0]
   by_cases hz0 : z < 0
   ·simp only [hz0, GMb, GMc]
    rw [B5 (by simp; omega)]
    simp only [GMb, GMc, rP_str]
    simp
   ·simp only [hz0, GMb, GMc, rP_str]
    simp
  ·have h0 : n / 10 ≠ 0 := by omega
   have hne : ¬ ((CA (n / 10)).length : Int) = 0 := by
    have := List.length_pos_iff.2 (lims_ne h0); omega
   have hdn : AU n = AU (n / 10) ++ [UInt8.ofNat (48 + n % 10)] := by
    conv => lhs; unfold AU
    rw [dif_neg hn]
   have hlen : (AU n).length = (AU (n / 10)).length + 1 := by rw [hdn]; simp
   have := hrec (n / 10, [UInt8.ofNat (48 + n % 10)] ++ s) ⟨Nat.lt_of_le_of_lt (Nat.div_le_self _ _) h1, by simp; omega⟩ (by dsimp only; omega)
   simp only [hne, GMb, GMc]
   rw [this, hdn]
   simp
end Go.Gm
namespace Go.Gm
structure Cl where
 x : Int
 y : Int
 s : UInt8
deriving DecidableEq
def cCl (c : Cl) : List Aa := [.bool (decide (c.x < 0)), .sl (enL cU (CA c.x.natAbs)) .no, .bool (decide (c.y < 0)), .sl (enL cU (CA c.y.natAbs)) .no, .int .u8 (c.s.toNat : Int)]
instance : Sz cCl 5 := ⟨fun _ => rfl⟩
instance : Pl cCl := ⟨fun _ => rfl⟩
def cBig (z : Int) : List Aa := EG z
instance : Sz cBig 2 := ⟨fun _ => rfl⟩
instance : Pl cBig := ⟨fun _ => rfl⟩
def SB (k : Nat) (z : Int) : Prop := z.natAbs < 4294967296 ^ k
theorem SB.mono {k m : Nat} {z : Int} (h : SB k z) (hm : k ≤ m) : SB m z := Nat.lt_of_lt_of_le h (pow_le32 hm)
theorem SB.add {k : Nat} {a b : Int} (ha : SB k a) (hb : SB k b) : SB (k + 1) (a + b) := by
 unfold SB at *
 have : 4294967296 ^ (k + 1) = 4294967296 ^ k * 4294967296 := Nat.pow_succ _ _
 omega
theorem SB.neg {k : Nat} {a : Int} (ha : SB k a) : SB k (-a) := by unfold SB at *; rwa [Int.natAbs_neg]
theorem SB.sub {k : Nat} {a b : Int} (ha : SB k a) (hb : SB k b) : SB (k + 1) (a - b) := by rw [Int.sub_eq_add_neg]; exact ha.add hb.neg
def Cl.ok (c : Cl) : Prop := SB 100 c.x ∧ SB 100 c.y
section
variable {H G : Ab} {p : Nat} {c : Cl} {z : Int}
theorem store_bigP {cs : List Aa} (hg : H[p]? = some (.cel 0 cs)) (hl : cs.length = 2) : Al 2 (.ptr p 0 0) (big z) H = some (H.set p (.cel 0 (EG z))) := by
 simp only [Al, AY hg, Option.bind_some, big_acells, CK hg, JM hl]
 rw [if_pos ⟨rfl, by omega⟩]
theorem BA {i : Nat} {x : Blk} (h : H[i]? = some x) : (H ++ G)[i]? = some x := by
 have := (List.getElem?_eq_some_iff.1 h).1
 rw [List.getElem?_append_left this]; exact h

end
end Go.Gm
namespace Go.Gm
theorem elems_sl {α : Type} {f : α → List Aa} {l : List α} {tk : Tok} {sz : Nat} {H : Ab} [hf : Sz f sz] : BI sz (.sl (enL f l) tk) H = some (enL f l) := by
 simp [BI, all_enL]
end Go.Gm
namespace Go.Gm
end Go.Gm
namespace Go.Gm
def PS (b : Nat) (out : List Nd) (v : Aa) (H : Ab) : Prop := (out = [] ∧ v = .sl [] .tight) ∨ ∃ t, b ≤ t ∧ v = .sl (enL cNd out) (.own t) ∧ H[t]? = some (.tok out.length As 5)
structure Kp (b : Nat) (H H' : Ab) : Prop where
 len : H.length ≤ H'.length
 cel : ∀ (i : Nat) (cs : List Aa), H[i]? = some (.cel 0 cs) → H'[i]? = some (.cel 0 cs)
 old : ∀ i, i < b → H'[i]? = H[i]?
theorem Kp.refl (b : Nat) (H : Ab) : Kp b H H := ⟨Nat.le_refl _, fun _ _ h => h, fun _ _ => rfl⟩
theorem Kp.trans {b : Nat} {H H1 H2 : Ab} (h : Kp b H H1) (h' : Kp b H1 H2) : Kp b H H2 :=
 ⟨Nat.le_trans h.len h'.len, fun i cs hc => h'.cel i cs (h.cel i cs hc), fun i hi => (h'.old i hi).trans (h.old i hi)⟩
theorem Kp.app {b : Nat} {H : Ab} (hb : b ≤ H.length) (G : Ab) : Kp b H (H ++ G) :=
 ⟨by simp, fun i cs h => BA h, fun i hi => by rw [List.getElem?_append_left (by omega)]⟩
theorem PS.sl {b : Nat} {out : List Nd} {v : Aa} {H : Ab} (h : PS b out v H) : ∃ tk, v = .sl (enL cNd out) tk := by
 rcases h with ⟨rfl, rfl⟩ | ⟨t, _, rfl, _⟩
 ·exact ⟨_, rfl⟩
 ·exact ⟨_, rfl⟩
theorem PS.left {b : Nat} {out : List Nd} {v : Aa} {H : Ab} (h : PS b out v H) (G : Ab) : PS b out v (H ++ G) := by
 rcases h with h1 | ⟨t, h1, h2, h3⟩
 ·exact .inl h1
 ·exact .inr ⟨t, h1, h2, BA h3⟩
theorem PS.put {b p : Nat} {out : List Nd} {v : Aa} {H : Ab} {c c' : List Aa} (h : PS b out v H) (hp : H[p]? = some (.cel 0 c)) : PS b out v (H.set p (.cel 0 c')) := by
 rcases h with h1 | ⟨t, h1, h2, h3⟩
 ·exact .inl h1
 ·refine .inr ⟨t, h1, h2, ?_⟩
  have : p ≠ t := fun e => by rw [← e, hp] at h3; cases h3
  rw [List.getElem?_set_ne this]; exact h3
theorem PS.snoc {b : Nat} {out : List Nd} {v : Aa} {H : Ab} (h : PS b out v H) (hb : b ≤ H.length) (x : Nd) (hl : out.length < 3518437208883) :
  ∃ v' H', AI As 5 40 v (.sl (enL cNd [x]) .tight) H = some (v', H') ∧ PS b (out ++ [x]) v' H' ∧ Kp b H H' := by
 rcases h with ⟨rfl, rfl⟩ | ⟨t, h1, rfl, h3⟩
 ·have := Cu (f := cNd) (l := []) (m := [x]) (ty := As) (bytes := 40) (tk := .tight) (H := H) (by simp) (by simp) (by simp)
  exact ⟨_, _, this, .inr ⟨H.length, hb, rfl, by simp⟩, Kp.app hb _⟩
 ·have := DW (f := cNd) (l := out) (m := [x]) (ty := As) (bytes := 40) (tk := .tight) (H := H) (t := t) (by simp) h3 (by simp; omega) (by simp; omega)
  have htl := (List.getElem?_eq_some_iff.1 h3).1
  refine ⟨_, _, this, .inr ⟨t, h1, rfl, by simp [htl]⟩, ⟨by simp, fun i cs hc => ?_, fun i hi => ?_⟩⟩
  ·have : t ≠ i := fun e => by rw [← e, h3] at hc; cases hc
   rw [List.getElem?_set_ne this]; exact hc
  ·rw [List.getElem?_set_ne (by omega)]
def TOPk (k : Nat) : Nat := 2 ^ k
def TOP : Nat := TOPk 1400
def Cn (v : Nat) (z : Int) : Prop := z.natAbs + 2 ^ v ≤ TOP
theorem abs_pow2 (v : Nat) : ((2 : Int) ^ v).natAbs = 2 ^ v := by rw [Int.natAbs_pow]; rfl
theorem Cn.add {v : Nat} {z : Int} (h : Cn (v + 1) z) : Cn v (z + 2 ^ v) ∧ Cn v z := by
 unfold Cn at *
 have e : (2 : Nat) ^ (v + 1) = 2 ^ v * 2 := Nat.pow_succ _ _
 have h1 := Int.natAbs_add_le z (2 ^ v)
 rw [abs_pow2] at h1
 omega
end Go.Gm
namespace Go.Gm
section
variable {Hc : Ab} {a c : List Aa} {z : Int}
theorem st1 (hc : c.length = 2) : Al 2 (.ptr (Hc.length + 1) 0 0) (big z) (Hc ++ [Blk.cel 0 a] ++ [Blk.cel 0 c]) = some (Hc ++ [Blk.cel 0 a] ++ [Blk.cel 0 (EG z)]) := by
 rw [store_bigP (cs := c) (by simp) hc]; simp

end
end Go.Gm
namespace Go.Gm
end Go.Gm
namespace Go.Gm
end Go.Gm
namespace Go.Gm
structure RC where
 n1 : Bool
 l1 : List Nat
 n2 : Bool
 l2 : List Nat
 s : UInt8
def cRC (r : RC) : List Aa := [.bool r.n1, .sl (enL cU r.l1) .no, .bool r.n2, .sl (enL cU r.l2) .no, .int .u8 (r.s.toNat : Int)]
instance : Sz cRC 5 := ⟨fun _ => rfl⟩
def RC.cl (r : RC) : Cl := ⟨bigI r.n1 r.l1, bigI r.n2 r.l2, r.s⟩
end Go.Gm
namespace Go.Gm
end Go.Gm
namespace Go.Gm
def JF (c : UInt8) : Bool := decide (33 ≤ c.toNat ∧ c.toNat ≤ 126)
theorem q04_sign (c : UInt8) (H : Ab) : Sh.f20 (.int .u8 (c.toNat : Int)) H = some (.ret (.bool (JF c)), H) := by
 unfold Sh.f20 JF
 by_cases h : (33 : Int) ≤ c.toNat
 ·have : 33 ≤ c.toNat := by omega
  simp [h, this]; omega
 ·have : ¬ 33 ≤ c.toNat := by omega
  simp [h, this]
def Fb (s : List UInt8) : Bool := s.all JF && decide (1 ≤ s.length ∧ s.length ≤ 40)
theorem q04_rule (s : List UInt8) (H : Ab) (hs : s.length < 1152921504606846976) : Sh.f21 (.str s) H = some (.ret (.bool (Fb s)), H) := by
 unfold Sh.f21
 refine Bt (σ := Nat) (fun i => i ≤ s.length ∧ (s.take i).all JF = true) (fun i => [.str s, .int .i64 (i : Int)]) (fun _ => H) (fun i => s.length - i) (fun _ => some (.ret (.bool (Fb s)), H)) (fun i rec hi hrec => ?_) 0 ⟨by omega, by simp⟩ (by omega)
 obtain ⟨hi, hall⟩ := hi
 unfold Sh.f4x
 by_cases h : i < s.length
 ·have hx : (i : Int) < (s.length : Int) := by omega
  simp only [AB, CW, Es, Option.bind_some, AQ, hx, decide_true, AO, Gv h, q04_sign, Fv, Jo]
  cases hc : JF s[i] with
  | false =>
   have : Fb s = false := by
    simp only [Fb, Bool.and_eq_false_iff]; left
    rw [List.all_eq_false]; exact ⟨s[i], List.getElem_mem h, by simp [hc]⟩
   simp [this]
  | true =>
   have := hrec (i + 1) ⟨h, by rw [List.take_succ_eq_append_getElem h, List.all_append]; simp [hall, hc]⟩ (by omega)
   simp (disch := omega) [A0]
   simpa using this
 ·have hx : ¬ (i : Int) < (s.length : Int) := by omega
  have he : s.take i = s := List.take_of_length_le (by omega)
  rw [he] at hall
  by_cases h1 : (1 : Int) ≤ s.length
  ·simp [hx, h1, Fb, hall]
   by_cases h2 : s.length ≤ 40
   ·have : (s.length : Int) ≤ 40 := by omega
    simp [this, h2]; omega
   ·have : ¬ (s.length : Int) ≤ 40 := by omega
    simp [this, h2]
  ·have : s = [] := List.eq_nil_of_length_eq_zero (by omega)
   subst this
   have hz : i = 0 := by simpa using hi
   subst hz; simp [Fb]
end Go.Gm
namespace Go.Gm
def RC.lim (r : RC) : Prop := Lim r.l1 ∧ Lim r.l2
def P1 (rule : List UInt8) (L : List Nd) : List Aa := [.str rule, .sl (enL cNd L) .no]
def pat (rule : List UInt8) (L : List Nd) : Aa := .agg (P1 rule L)
theorem boxPat (rule : List UInt8) (L : List Nd) (H : Ab) : Ek true 2 (pat rule L) H = some (.ptr H.length 0 0, H ++ [.cel 0 (P1 rule L)]) := Ig rfl rfl
section
variable {H : Ab} {p : Nat} {rule : List UInt8} {L : List Nd}
theorem PN (hg : H[p]? = some (.cel 0 (P1 rule L))) : Ad false 1 (.ptr p 0 0) H = some (.str rule) := by
 simp only [Ad, AY hg, Option.bind_some]; rfl
theorem PO (hg : H[p]? = some (.cel 0 (P1 rule L))) : Ad true 1 (.ptr p 0 1) H = some (Lb L) := by
 simp only [Ad, AY hg, Option.bind_some]; rfl
theorem load_patP (hg : H[p]? = some (.cel 0 (P1 rule L))) : Ad true 2 (.ptr p 0 0) H = some (pat rule L) := by
 simp only [Ad, AY hg, Option.bind_some]; rfl

end
theorem Rg (rule : List UInt8) (L : List Nd) (H : Ab) (hr : rule.length < 1152921504606846976) (hL : L.length < 17592186044415) : Sh.f8 (pat rule L) H = some (.ret (.bool (Fb rule && C9 L)), H) := by
 unfold Sh.f8
 have e1 : (H ++ [Blk.cel 0 (P1 rule L)])[H.length]? = some (.cel 0 (P1 rule L)) := AD
 simp only [GMb, GMc, boxPat, Aj, Nat.zero_add, Nat.add_zero, PN e1, q04_rule rule _ hr]
 cases Fb rule with
 | false => simp only [GMb, GMc, Mh]
 | true => simp only [GMb, GMc, Aj, Nat.zero_add, PO e1, Lb, CL, q05_right L .no _ hL, Mh]
def R8 (a b : Int) : Bool := decide (0 ≤ a) && decide (a ≤ 1000) && decide (0 ≤ b) && decide (b ≤ 100000)
end Go.Gm
namespace Go.Gm
end Go.Gm
namespace Go.Gm
end Go.Gm
namespace Go.Gm
def Lh (m : Int) (x : Nd) : Nat → Int
 | 0 => m
 | k + 1 => max (Lh m x k) (x.kid k)
def Iu (L : List Nd) : Int := L.foldl (fun m x => if x.lv = 1 then Lh m x 4 else m) 0
theorem OJ (L : List Nd) : Lb L = .agg [.sl (enL cNd L) .no] := rfl
theorem boxQ (L : List Nd) (H : Ab) : Ek true 1 (Lb L) H = some (.ptr H.length 0 0, H ++ [.cel 0 (CL L)]) := Ig rfl rfl
section
variable {H : Ab} {p : Nat} {L : List Nd}
theorem Eb (hg : H[p]? = some (.cel 0 (CL L))) : Ad false 1 (.ptr p 0 0) H = some (.sl (enL cNd L) .no) := by
 simp only [Ad, AY hg, Option.bind_some]; rfl
theorem OL (hg : H[p]? = some (.cel 0 (CL L))) : Ad true 1 (.ptr p 0 0) H = some (Lb L) := by
 simp only [Ad, AY hg, Option.bind_some]; rfl

end
theorem q08_most (L : List Nd) (H : Ab) (hL : L.length < 1152921504606846976) : Sh.f11 (Lb L) H = some (.ret (.int .u8 (IntKind.u8.wrap (Iu L))), H) := by
 unfold Sh.f11
 have e1 : (H ++ [Blk.cel 0 (CL L)])[H.length]? = some (.cel 0 (CL L)) := AD
 simp only [GMb, GMc, boxQ]
 refine Cp (G := fun rec1 vs H1 => Sh.f3n H rec1 (ag vs 0) (ag vs 1) (ag vs 2) H1) L.length (fun i => [.ptr H.length 0 0, .int .i64 (Iu (L.take i)), .int .i64 (i : Int)]) (fun _ => H ++ [.cel 0 (CL L)]) _ hL (fun rec i hi => ?_) (fun rec => ?_)
 ·have hi' : (i : Int) < (L.length : Int) := by omega
  have hws := Aw (show i < 9223372036854775807 by omega)
  have hm : Iu (L.take (i + 1)) = if L[i].lv = 1 then Lh (Iu (L.take i)) L[i] 4 else Iu (L.take i) := by
   unfold Iu
   rw [List.take_succ_eq_append_getElem hi, List.foldl_append]; rfl
  rw [hm]
  generalize Iu (L.take i) = m
  unfold Sh.f3n
  simp only [GMb, GMc, Aj, Nat.zero_add, Eb e1, A3, hi']
  by_cases hlv : L[i].lv = 1
  ·rw [if_pos hlv]
   refine Cp (G := fun rec2 vs H1 => Sh.f2o H rec rec2 (ag vs 0) (ag vs 1) (ag vs 2) (ag vs 3) H1) 4 (fun k => [.ptr H.length 0 0, .int .i64 (Lh m L[i] k), .int .i64 (i : Int), .int .i64 (k : Int)]) (fun _ => H ++ [.cel 0 (CL L)]) _ (by decide) (fun rec2 k hk => ?_) (fun rec2 => ?_)
   ·have hk' : (k : Int) < 4 := by omega
    unfold Sh.f2o
    simp only [GMb, GMc, Ah, Aj, Au, Nat.zero_add, Nat.add_zero, Nat.mul_one, Bl, hk', Eb e1, Av hi, hlv, CC hk, C0 hk, max_int, Aw (show k < 9223372036854775807 by omega), Lh]
   ·have hf : ¬ (((4 : Nat) : Int) < 4) := by decide
    unfold Sh.f2o
    simp only [GMb, GMc, hf, hws]
  ·rw [if_neg hlv, Ro fuel_pos]
   have hf : ((0 : Int) < 4) := by decide
   unfold Sh.f2o
   simp only [GMb, GMc, Ah, Aj, Au, Nat.zero_add, Nat.add_zero, Nat.mul_one, Bl, hf, Eb e1, Av hi, hlv, hws]
 ·unfold Sh.f3n
  rw [List.take_of_length_le (Nat.le_refl _)]
  simp only [GMb, GMc, Aj, Nat.zero_add, Eb e1, A3, Int.lt_irrefl, BU, Pv]
theorem maxK_st {m : Int} {x : Nd} (hm : St m) (hx : ∀ k, k < 4 → St (x.kid k)) : ∀ k, k ≤ 4 → St (Lh m x k)
 | 0, _ => hm
 | k + 1, h => by
  have h1 := maxK_st hm hx k (by omega)
  have h2 := hx k (by omega)
  obtain ⟨a1, a2⟩ := h1
  obtain ⟨b1, b2⟩ := h2
  exact ⟨show (0 : Int) ≤ max (Lh m x k) (x.kid k) by omega, show max (Lh m x k) (x.kid k) ≤ (255 : Int) by omega⟩
theorem mostZ_st {L : List Nd} (hl : Ao L = true) : St (Iu L) := by
 have key : ∀ (l : List Nd) (m : Int), St m → (∀ x ∈ l, x.lv = 1 → ∀ k, k < 4 → St (x.kid k)) → St (l.foldl (fun m x => if x.lv = 1 then Lh m x 4 else m) m) := by
  intro l
  induction l with
  | nil => intro m hm _; exact hm
  | cons a l ih =>
   intro m hm hx
   refine ih _ ?_ fun x h => hx x (by simp [h])
   dsimp only
   split
   ·rename_i h; exact maxK_st hm (hx a (by simp) h) 4 (Nat.le_refl _)
   ·exact hm
 refine key L 0 ⟨Int.le_refl _, by decide⟩ fun x hx hlv k hk => ?_
 obtain ⟨i, hi, rfl⟩ := List.getElem_of_mem hx
 have := (Ax hl hi).2.2 k hk
 exact ⟨this.1, this.2.1 hlv⟩
theorem q08_mostZ {L : List Nd} (H : Ab) (hL : L.length < 1152921504606846976) (hl : Ao L = true) : Sh.f11 (Lb L) H = some (.ret (.int .u8 (Iu L)), H) := by
 have := mostZ_st hl
 rw [q08_most L H hL, wrap_u8 this.1 (by have := this.2; omega)]
end Go.Gm
namespace Go.Gm
end Go.Gm
namespace Go.Gm
def cBO : Option Int → List Aa
 | none => [.bool false, .sl [] .tight]
 | some z => EG z
instance : Sz cBO 2 := ⟨fun a => by cases a <;> rfl⟩
instance : Pl cBO := ⟨fun a => by cases a <;> rfl⟩
def bo (a : Option Int) : Int := a.getD 0
end Go.Gm
namespace Go.Gm
section
variable {len sz id g o m p : Nat} {K : IntKind} {Hc : Ab} {nf : Nat → Nat}
theorem OO (h : m < len) : Bk len sz (.ptr id g o) (.int K (m : Int)) = some (.ptr id g (o + m * sz)) := by
 unfold Bk
 simp only []
 rw [if_pos ⟨by omega, by omega⟩]; simp
end
end Go.Gm
namespace Go.Gm
end Go.Gm
namespace Go.Gm
end Go.Gm
namespace Go.Gm
end Go.Gm
namespace Go.Gm
end Go.Gm
namespace Go.Gm
def bx (L : List Nd) (f : List Nd → Int) : Int := if L = [] then 0 else f L
end Go.Gm
namespace Go.Gm
end Go.Gm
namespace Go.Gm
section
variable {α : Type} {f : α → List Aa} {ty : TypeId} {sz : Nat}
def RS (f : α → List Aa) (ty : TypeId) (sz b : Nat) (out : List α) (v : Aa) (H : Ab) : Prop := (out = [] ∧ v = .sl [] .tight) ∨ ∃ t, b ≤ t ∧ v = .sl (enL f out) (.own t) ∧ H[t]? = some (.tok out.length ty sz)
theorem RS.sl {b : Nat} {out : List α} {v : Aa} {H : Ab} (h : RS f ty sz b out v H) : ∃ tk, v = .sl (enL f out) tk := by
 rcases h with ⟨rfl, rfl⟩ | ⟨t, _, rfl, _⟩
 ·exact ⟨_, rfl⟩
 ·exact ⟨_, rfl⟩
theorem RS.left {b : Nat} {out : List α} {v : Aa} {H : Ab} (h : RS f ty sz b out v H) (G : Ab) : RS f ty sz b out v (H ++ G) := by
 rcases h with h1 | ⟨t, h1, h2, h3⟩
 ·exact .inl h1
 ·exact .inr ⟨t, h1, h2, BA h3⟩
theorem RS.put {b p : Nat} {out : List α} {v : Aa} {H : Ab} {c c' : List Aa} (h : RS f ty sz b out v H) (hp : H[p]? = some (.cel 0 c)) : RS f ty sz b out v (H.set p (.cel 0 c')) := by
 rcases h with h1 | ⟨t, h1, h2, h3⟩
 ·exact .inl h1
 ·refine .inr ⟨t, h1, h2, ?_⟩
  have : p ≠ t := fun e => by rw [← e, hp] at h3; cases h3
  rw [List.getElem?_set_ne this]; exact h3
theorem RS.snoc [hf : Sz f sz] {bytes b : Nat} {out : List α} {v : Aa} {H : Ab} (h : RS f ty sz b out v H) (hb : b ≤ H.length) (x : α) (tk : Tok) (hl : (out.length + 1) * bytes ≤ 140737488355328) (hl2 : out.length + 1 ≤ 140737488355328) :
  ∃ v' H', AI ty sz bytes v (.sl (enL f [x]) tk) H = some (v', H') ∧ RS f ty sz b (out ++ [x]) v' H' ∧ Kp b H H' := by
 rcases h with ⟨rfl, rfl⟩ | ⟨t, h1, rfl, h3⟩
 ·have := Cu (f := f) (l := []) (m := [x]) (ty := ty) (bytes := bytes) (tk := tk) (H := H) (by simp) (by simpa using hl) (by simp)
  exact ⟨_, _, this, .inr ⟨H.length, hb, rfl, by simp⟩, Kp.app hb _⟩
 ·have := DW (f := f) (l := out) (m := [x]) (ty := ty) (bytes := bytes) (tk := tk) (H := H) (t := t) (by simp) h3 (by simpa using hl) (by simpa using hl2)
  have htl := (List.getElem?_eq_some_iff.1 h3).1
  refine ⟨_, _, this, .inr ⟨t, h1, rfl, by simp [htl]⟩, ⟨by simp, fun i cs hc => ?_, fun i hi => ?_⟩⟩
  ·have : t ≠ i := fun e => by rw [← e, h3] at hc; cases hc
   rw [List.getElem?_set_ne this]; exact hc
  ·rw [List.getElem?_set_ne (by omega)]

end
end Go.Gm
namespace Go.Gm
end Go.Gm
namespace Go.Gm
end Go.Gm
namespace Go.Gm
end Go.Gm
namespace Go.Gm
theorem qright_loose {L : List Nd} (h : C9 L = true) : Ao L = true := by
 simp only [C9, Bool.or_eq_true, decide_eq_true_eq, Bool.and_eq_true] at h
 rcases h with h | h
 ·subst h; rfl
 ·exact h.1.1.1
end Go.Gm
namespace Go.Gm
end Go.Gm
namespace Go.Gm
end Go.Gm
namespace Go.Gm
end Go.Gm
namespace Go.Gm
end Go.Gm
namespace Go.Gm
theorem sb_lt10 {z : Int} {k m : Nat} (h : SB k z) (hk : 10 * k ≤ m) : z.natAbs < 10 ^ m := Nat.lt_of_lt_of_le h (pow10_le hk)
theorem sb_dec {z : Int} (h : SB 44 z) : z.natAbs < 10 ^ 4096 ∧ (LR z).length ≤ 5000 := by
 have h1 : z.natAbs < 10 ^ 4096 := sb_lt10 (m := 4096) h (by decide)
 refine ⟨h1, ?_⟩
 have := RH 4096 z.natAbs h1
 simp only [show ¬ ((4096 : Nat) = 0) by decide, if_false] at this
 unfold LR
 split
 ·simp; omega
 ·omega
end Go.Gm
namespace Go.Gm
end Go.Gm
namespace Go.Gm
end Go.Gm
namespace Go.Gm
end Go.Gm
namespace Go.Gm
end Go.Gm
namespace Go.Gm
theorem Oa {ι : Type} {G : ι → LK → LK} {σ : Type} (I : σ → List Aa → Ab → Prop) (μ : σ → Nat) (done : σ → Prop)
  (turn : ∀ (s : σ) (vs : List Aa) (H : Ab), I s vs H → ¬ done s → ∃ s' vs' H', μ s' < μ s ∧ I s' vs' H' ∧ ∀ (i : ι) (rec : LK), G i rec vs H = rec vs' H')
  {s : σ} {vs : List Aa} {H : Ab} (h0 : I s vs H) (hm : μ s < 1152921504606846976) : ∃ s' vs' H', done s' ∧ I s' vs' H' ∧ ∀ i, ∃ rec, Ap (G i) AM vs H = G i rec vs' H' := by
 have key : ∀ (n : Nat) (s : σ) (vs : List Aa) (H : Ab), μ s < n → I s vs H → ∃ s' vs' H', done s' ∧ I s' vs' H' ∧ ∀ i, ∃ rec, Ap (G i) n vs H = G i rec vs' H' := by
  intro n
  induction n with
  | zero => intro s vs H hn _; omega
  | succ n ih =>
   intro s vs H hn hI
   by_cases hd : done s
   ·exact ⟨s, vs, H, hd, hI, fun i => ⟨Ap (G i) n, Ea n vs H⟩⟩
   ·obtain ⟨s1, vs1, H1, h1, h2, h3⟩ := turn s vs H hI hd
    obtain ⟨s2, vs2, H2, h4, h5, h6⟩ := ih s1 vs1 H1 (by omega) h2
    exact ⟨s2, vs2, H2, h4, h5, fun i => (h6 i).imp fun rec h7 => by rw [Ea, h3, h7]⟩
 exact key AM s vs H (by rw [Dm]; exact hm) h0
theorem loop_while {G : LK → LK} {σ : Type} (I : σ → List Aa → Ab → Prop) (μ : σ → Nat) (done : σ → Prop)
  (turn : ∀ (s : σ) (vs : List Aa) (H : Ab), I s vs H → ¬ done s → ∃ s' vs' H', μ s' < μ s ∧ I s' vs' H' ∧ ∀ rec : LK, G rec vs H = rec vs' H')
  {s : σ} {vs : List Aa} {H : Ab} (h0 : I s vs H) (hm : μ s < 1152921504606846976) : ∃ s' vs' H', done s' ∧ I s' vs' H' ∧ ∃ rec, Ap G AM vs H = G rec vs' H' := by
 obtain ⟨s', vs', H', h1, h2, h3⟩ := Oa (G := fun (_ : Unit) => G) I μ done (fun s vs H hI hd => by
  obtain ⟨s1, vs1, H1, h1, h2, h3⟩ := turn s vs H hI hd
  exact ⟨s1, vs1, H1, h1, h2, fun _ => h3⟩) h0 hm
 exact ⟨s', vs', H', h1, h2, h3 ()⟩
theorem Kp.get {b p : Nat} {H H' : Ab} {cs : List Aa} (h : Kp b H H') (hp : H[p]? = some (.cel 0 cs)) : H'[p]? = some (.cel 0 cs) := h.cel p cs hp
end Go.Gm
namespace Go.Gm
end Go.Gm
namespace Go.Gm
end Go.Gm
namespace Go.Gm
end Go.Gm
namespace Go.Gm
theorem RS.app {α : Type} {f : α → List Aa} {ty : TypeId} {sz : Nat} [hf : Sz f sz] {bytes b : Nat} {out : List α} {v : Aa} {H : Ab} (h : RS f ty sz b out v H) (hb : b ≤ H.length) (m : List α) (tk : Tok) (hl : (out.length + m.length) * bytes ≤ 140737488355328) (hl2 : out.length + m.length ≤ 140737488355328) :
  ∃ v' H', AI ty sz bytes v (.sl (enL f m) tk) H = some (v', H') ∧ RS f ty sz b (out ++ m) v' H' ∧ Kp b H H' := by
 by_cases hm : m = []
 ·subst hm
  have hx : (BI sz v H).isSome = true := by
   obtain ⟨tk', rfl⟩ := h.sl
   rw [elems_sl]; rfl
  refine ⟨v, H, FV hx, by rw [List.append_nil]; exact h, Kp.refl _ _⟩
 ·rcases h with ⟨rfl, rfl⟩ | ⟨t, h1, rfl, h3⟩
  ·have := Cu (f := f) (l := []) (m := m) (ty := ty) (bytes := bytes) (tk := tk) (H := H) hm (by simpa using hl) (by simpa using hl2)
   exact ⟨_, _, this, .inr ⟨H.length, hb, rfl, by simp⟩, Kp.app hb _⟩
  ·have := DW (f := f) (l := out) (m := m) (ty := ty) (bytes := bytes) (tk := tk) (H := H) (t := t) hm h3 hl hl2
   have htl := (List.getElem?_eq_some_iff.1 h3).1
   refine ⟨_, _, this, .inr ⟨t, h1, rfl, by simp [htl]⟩, ⟨by simp, fun i cs hc => ?_, fun i hi => ?_⟩⟩
   ·have : t ≠ i := fun e => by rw [← e, h3] at hc; cases hc
    rw [List.getElem?_set_ne this]; exact hc
   ·rw [List.getElem?_set_ne (by omega)]
end Go.Gm
namespace Go.Gm
end Go.Gm
namespace Go.Gm
end Go.Gm
