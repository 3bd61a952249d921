/- The forms are what the evaluator comes to; so they are what the functions come to. -/
import Derived.Test.YtenmplcmmdaibaaSh
import Derived.Test.YtenmplcmmdaibaaChecked
import Derived.KernelRfl
namespace Go.Gm
open Go.Proofs
set_option maxRecDepth 100000
theorem mixed : Try.prog.follows .mixedOrders = true := by kernel_rfl
def ann_stringslite_HasPrefix : Ann := (.two .leaf (.two .leaf .leaf))
noncomputable def orc_stringslite_HasPrefix : Orc := noO
theorem tie_stringslite_HasPrefix : ∀ (a : AVal) (b : AVal) (H : AHeap), fnA (mkC Try.prog orc_stringslite_HasPrefix) Try.f35 (bodyOf Try.f35) ann_stringslite_HasPrefix .keep [a, b] H = Sh.stringslite_HasPrefix a b H := by intros; kernel_rfl
theorem call_stringslite_HasPrefix : FnOk Try.prog 35 (ap2 Sh.stringslite_HasPrefix) := fn_ok2 mixed (orc_no _) (by kernel_rfl) (by kernel_rfl) (by kernel_rfl) (by kernel_rfl) tie_stringslite_HasPrefix
def ann_strings_HasPrefix : Ann := (.two .leaf (.two .leaf .leaf))
noncomputable def orc_strings_HasPrefix : Orc := (ent 35 (ap2 Sh.stringslite_HasPrefix) noO)
theorem tie_strings_HasPrefix : ∀ (a : AVal) (b : AVal) (H : AHeap), fnA (mkC Try.prog orc_strings_HasPrefix) Try.f19 (bodyOf Try.f19) ann_strings_HasPrefix .keep [a, b] H = Sh.strings_HasPrefix a b H := by intros; kernel_rfl
theorem call_strings_HasPrefix : FnOk Try.prog 19 (ap2 Sh.strings_HasPrefix) := fn_ok2 mixed (orc_ent call_stringslite_HasPrefix (orc_no _)) (by kernel_rfl) (by kernel_rfl) (by kernel_rfl) (by kernel_rfl) tie_strings_HasPrefix
def ann_sniff_Of : Ann := (.two .leaf (.two (.two .leaf (.one (.loop [0, 10, 11, 12] (.two .leaf (.two (.two .leaf .leaf) (.two (.one (.two .leaf (.two .leaf (.two (.two .leaf .leaf) .leaf)))) .leaf)))))) (.two (.two .leaf (.one (.loop [24] (.two .leaf (.two (.two .leaf .leaf) (.one (.two .leaf (.two (.two .leaf (.one (.join [28, 29] (.two .leaf (.two .leaf .leaf)) (.two (.two .leaf .leaf) (.join [32] (.two .leaf (.two .leaf (.two .leaf (.two .leaf (.two .leaf (.two .leaf (.two .leaf (.two .leaf .leaf)))))))) (.two (.two .leaf .leaf) .leaf)))))) .leaf)))))))) (.two .leaf .leaf))))
noncomputable def orc_sniff_Of : Orc := (ent 19 (ap2 Sh.strings_HasPrefix) noO)
theorem tie_sniff_Of : ∀ (a : AVal) (H : AHeap), fnA (mkC Try.prog orc_sniff_Of) Try.f7 (bodyOf Try.f7) ann_sniff_Of .pure [a] H = Sh.sniff_Of a H := by intros; kernel_rfl
theorem call_sniff_Of : FnOk Try.prog 7 (ap1 Sh.sniff_Of) := fn_ok1 mixed (orc_ent call_strings_HasPrefix (orc_no _)) (by kernel_rfl) (by kernel_rfl) (by kernel_rfl) (by kernel_rfl) tie_sniff_Of
def ann_sniff_names : Ann := (.two .leaf (.two .leaf .leaf))
noncomputable def orc_sniff_names : Orc := noO
theorem tie_sniff_names : ∀  (H : AHeap), fnA (mkC Try.prog orc_sniff_names) Try.f21 (bodyOf Try.f21) ann_sniff_names .pure [] H = Sh.sniff_names H := by intros; kernel_rfl
theorem call_sniff_names : FnOk Try.prog 21 (ap0 Sh.sniff_names) := fn_ok0 mixed (orc_no _) (by kernel_rfl) (by kernel_rfl) (by kernel_rfl) (by kernel_rfl) tie_sniff_names
def ann_sniff_Name : Ann := (.two .leaf (.two (.two .leaf (.two (.two .leaf .leaf) .leaf)) (.two .leaf .leaf)))
noncomputable def orc_sniff_Name : Orc := (ent 21 (ap0 Sh.sniff_names) noO)
theorem tie_sniff_Name : ∀ (a : AVal) (H : AHeap), fnA (mkC Try.prog orc_sniff_Name) Try.f9 (bodyOf Try.f9) ann_sniff_Name .keep [a] H = Sh.sniff_Name a H := by intros; kernel_rfl
theorem call_sniff_Name : FnOk Try.prog 9 (ap1 Sh.sniff_Name) := fn_ok1 mixed (orc_ent call_sniff_names (orc_no _)) (by kernel_rfl) (by kernel_rfl) (by kernel_rfl) (by kernel_rfl) tie_sniff_Name
def ann_sniff_Named : Ann := (.two .leaf (.two (.two .leaf (.one (.loop [0, 5, 6] (.two .leaf (.two (.two .leaf .leaf) (.two (.one (.two .leaf (.two .leaf (.two (.two .leaf .leaf) .leaf)))) .leaf)))))) (.two .leaf .leaf)))
noncomputable def orc_sniff_Named : Orc := (ent 21 (ap0 Sh.sniff_names) noO)
theorem tie_sniff_Named : ∀ (a : AVal) (H : AHeap), fnA (mkC Try.prog orc_sniff_Named) Try.f11 (bodyOf Try.f11) ann_sniff_Named .keep [a] H = Sh.sniff_Named a H := by intros; kernel_rfl
theorem call_sniff_Named : FnOk Try.prog 11 (ap1 Sh.sniff_Named) := fn_ok1 mixed (orc_ent call_sniff_names (orc_no _)) (by kernel_rfl) (by kernel_rfl) (by kernel_rfl) (by kernel_rfl) tie_sniff_Named
def ann_gliderlaw20_alive : Ann := (.two .leaf (.two .leaf .leaf))
noncomputable def orc_gliderlaw20_alive : Orc := (ent 7 (ap1 Sh.sniff_Of) (ent 9 (ap1 Sh.sniff_Name) (ent 11 (ap1 Sh.sniff_Named) noO)))
theorem tie_gliderlaw20_alive : ∀  (H : AHeap), fnA (mkC Try.prog orc_gliderlaw20_alive) Try.f6 (bodyOf Try.f6) ann_gliderlaw20_alive .keep [] H = Sh.gliderlaw20_alive H := by intros; kernel_rfl
theorem call_gliderlaw20_alive : FnOk Try.prog 6 (ap0 Sh.gliderlaw20_alive) := fn_ok0 mixed (orc_ent call_sniff_Of ((orc_ent call_sniff_Name ((orc_ent call_sniff_Named (orc_no _)))))) (by kernel_rfl) (by kernel_rfl) (by kernel_rfl) (by kernel_rfl) tie_gliderlaw20_alive
def ann_gliderref20_begins : Ann := (.two .leaf (.two .leaf .leaf))
noncomputable def orc_gliderref20_begins : Orc := noO
theorem tie_gliderref20_begins : ∀ (a : AVal) (b : AVal) (H : AHeap), fnA (mkC Try.prog orc_gliderref20_begins) Try.f20 (bodyOf Try.f20) ann_gliderref20_begins .keep [a, b] H = Sh.gliderref20_begins a b H := by intros; kernel_rfl
theorem call_gliderref20_begins : FnOk Try.prog 20 (ap2 Sh.gliderref20_begins) := fn_ok2 mixed (orc_no _) (by kernel_rfl) (by kernel_rfl) (by kernel_rfl) (by kernel_rfl) tie_gliderref20_begins
def ann_gliderref20_Of : Ann := (.two .leaf (.two (.one (.two .leaf (.two (.two .leaf .leaf) (.two .leaf (.two (.two .leaf .leaf) (.two .leaf (.two (.two .leaf .leaf) (.two .leaf (.two (.two .leaf .leaf) (.two .leaf (.two (.two .leaf .leaf) .leaf))))))))))) (.two .leaf .leaf)))
noncomputable def orc_gliderref20_Of : Orc := (ent 20 (ap2 Sh.gliderref20_begins) noO)
theorem tie_gliderref20_Of : ∀ (a : AVal) (H : AHeap), fnA (mkC Try.prog orc_gliderref20_Of) Try.f8 (bodyOf Try.f8) ann_gliderref20_Of .keep [a] H = Sh.gliderref20_Of a H := by intros; kernel_rfl
theorem call_gliderref20_Of : FnOk Try.prog 8 (ap1 Sh.gliderref20_Of) := fn_ok1 mixed (orc_ent call_gliderref20_begins (orc_no _)) (by kernel_rfl) (by kernel_rfl) (by kernel_rfl) (by kernel_rfl) tie_gliderref20_Of
def ann_gliderref20_names : Ann := (.two .leaf (.two .leaf .leaf))
noncomputable def orc_gliderref20_names : Orc := noO
theorem tie_gliderref20_names : ∀  (H : AHeap), fnA (mkC Try.prog orc_gliderref20_names) Try.f22 (bodyOf Try.f22) ann_gliderref20_names .keep [] H = Sh.gliderref20_names H := by intros; kernel_rfl
theorem call_gliderref20_names : FnOk Try.prog 22 (ap0 Sh.gliderref20_names) := fn_ok0 mixed (orc_no _) (by kernel_rfl) (by kernel_rfl) (by kernel_rfl) (by kernel_rfl) tie_gliderref20_names
def ann_gliderref20_Name : Ann := (.two .leaf (.two (.two .leaf (.two (.two .leaf .leaf) .leaf)) (.two .leaf .leaf)))
noncomputable def orc_gliderref20_Name : Orc := (ent 22 (ap0 Sh.gliderref20_names) noO)
theorem tie_gliderref20_Name : ∀ (a : AVal) (H : AHeap), fnA (mkC Try.prog orc_gliderref20_Name) Try.f10 (bodyOf Try.f10) ann_gliderref20_Name .keep [a] H = Sh.gliderref20_Name a H := by intros; kernel_rfl
theorem call_gliderref20_Name : FnOk Try.prog 10 (ap1 Sh.gliderref20_Name) := fn_ok1 mixed (orc_ent call_gliderref20_names (orc_no _)) (by kernel_rfl) (by kernel_rfl) (by kernel_rfl) (by kernel_rfl) tie_gliderref20_Name
def ann_gliderref20_Named : Ann := (.two .leaf (.two .leaf (.two (.two .leaf (.one (.loop [0, 3, 4] (.two (.two .leaf (.two .leaf .leaf)) (.two (.one (.two .leaf (.two (.two .leaf .leaf) .leaf))) .leaf))))) (.two .leaf .leaf))))
noncomputable def orc_gliderref20_Named : Orc := (ent 22 (ap0 Sh.gliderref20_names) noO)
theorem tie_gliderref20_Named : ∀ (a : AVal) (H : AHeap), fnA (mkC Try.prog orc_gliderref20_Named) Try.f12 (bodyOf Try.f12) ann_gliderref20_Named .keep [a] H = Sh.gliderref20_Named a H := by intros; kernel_rfl
theorem call_gliderref20_Named : FnOk Try.prog 12 (ap1 Sh.gliderref20_Named) := fn_ok1 mixed (orc_ent call_gliderref20_names (orc_no _)) (by kernel_rfl) (by kernel_rfl) (by kernel_rfl) (by kernel_rfl) tie_gliderref20_Named
def ann_gliderlaw20_SniffTells : Ann := (.two .leaf (.two (.two .leaf (.two (.two .leaf .leaf) .leaf)) (.two .leaf .leaf)))
noncomputable def orc_gliderlaw20_SniffTells : Orc := (ent 6 (ap0 Sh.gliderlaw20_alive) (ent 7 (ap1 Sh.sniff_Of) (ent 8 (ap1 Sh.gliderref20_Of) (ent 9 (ap1 Sh.sniff_Name) (ent 10 (ap1 Sh.gliderref20_Name) (ent 11 (ap1 Sh.sniff_Named) (ent 12 (ap1 Sh.gliderref20_Named) noO)))))))
theorem tie_gliderlaw20_SniffTells : ∀ (a : AVal) (b : AVal) (H : AHeap), fnA (mkC Try.prog orc_gliderlaw20_SniffTells) Try.f3 (bodyOf Try.f3) ann_gliderlaw20_SniffTells .keep [a, b] H = Sh.gliderlaw20_SniffTells a b H := by intros; kernel_rfl
theorem call_gliderlaw20_SniffTells : FnOk Try.prog 3 (ap2 Sh.gliderlaw20_SniffTells) := fn_ok2 mixed (orc_ent call_gliderlaw20_alive ((orc_ent call_sniff_Of ((orc_ent call_gliderref20_Of ((orc_ent call_sniff_Name ((orc_ent call_gliderref20_Name ((orc_ent call_sniff_Named ((orc_ent call_gliderref20_Named (orc_no _)))))))))))))) (by kernel_rfl) (by kernel_rfl) (by kernel_rfl) (by kernel_rfl) tie_gliderlaw20_SniffTells
def ann_gliderlaw20_SniffTen : Ann := (.two .leaf (.two (.two .leaf (.two (.two .leaf .leaf) .leaf)) (.two (.two .leaf (.two (.two .leaf .leaf) .leaf)) (.two (.reg [0, 1, 2, 3, 4, 5, 6, 7, 8, 9, 10, 11, 12, 13, 14, 15, 16, 17, 18]) .leaf))))
noncomputable def orc_gliderlaw20_SniffTen : Orc := (ent 6 (ap0 Sh.gliderlaw20_alive) (ent 7 (ap1 Sh.sniff_Of) noO))
theorem tie_gliderlaw20_SniffTen : ∀ (a : AVal) (b : AVal) (H : AHeap), fnA (mkC Try.prog orc_gliderlaw20_SniffTen) Try.f4 (bodyOf Try.f4) ann_gliderlaw20_SniffTen .keep [a, b] H = Sh.gliderlaw20_SniffTen a b H := by intros; kernel_rfl
theorem call_gliderlaw20_SniffTen : FnOk Try.prog 4 (ap2 Sh.gliderlaw20_SniffTen) := fn_ok2 mixed (orc_ent call_gliderlaw20_alive ((orc_ent call_sniff_Of (orc_no _)))) (by kernel_rfl) (by kernel_rfl) (by kernel_rfl) (by kernel_rfl) tie_gliderlaw20_SniffTen
end Go.Gm
