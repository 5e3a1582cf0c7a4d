/- A part of the proof: ZAM. -/
import Derived.Test.YtnkpcgpmgkaakaaGreatZAK
namespace Go.Proofs.T
open Go Go.Ab Go.RowKit
theorem aaF (c:Int) (h:97≤c∧c≤122) (g d:Nat):ACalls E 111 [.val (.int .u8 c)] [] g d (dI 1) []:=by
 have f:(97≤c)=True:=eq_true (by omega);have i:(c≤122)=True:=eq_true (by omega);have k:(65≤c)=True:=eq_true (by omega);have l:(c≤90)=False:=eq_false (by omega);have m:(48≤c)=True:=eq_true (by omega);have n:(c≤57)=False:=eq_false (by omega);have o:(c=95)=False:=eq_false (by omega);have p:(c=9)=False:=eq_false (by omega);have q:(c=10)=False:=eq_false (by omega);have r:(c=13)=False:=eq_false (by omega);have j:(c=32)=False:=eq_false (by omega);refine Ax 39 Tryz.call111 Tryz.func111 ?_;simp only[go_sem];refine Aa fun _ a=>Ac 1 fun _ _=>?_;simp only[go_sem]
 refine a (Aa fun _ _=>Aa fun _ b=>Ac 14 fun _ _=>?_);simp only[go_sem,f,i];refine b (Al (Aa fun _ e=>Ac 1 fun _ _=>?_));simp only[go_sem];refine e (Ah (Ag ?_));simp only[go_sem];exact Co.of_eq rfl
theorem aaG (c:Int) (h:65≤c∧c≤90) (g d:Nat):ACalls E 111 [.val (.int .u8 c)] [] g d (dI 1) []:=by
 have f:(97≤c)=False:=eq_false (by omega);have k:(c≤122)=True:=eq_true (by omega);have i:(65≤c)=True:=eq_true (by omega);have j:(c≤90)=True:=eq_true (by omega);have m:(48≤c)=True:=eq_true (by omega);have n:(c≤57)=False:=eq_false (by omega);have o:(c=95)=False:=eq_false (by omega);have p:(c=9)=False:=eq_false (by omega);have q:(c=10)=False:=eq_false (by omega);have r:(c=13)=False:=eq_false (by omega);have l:(c=32)=False:=eq_false (by omega);refine Ax 39 Tryz.call111 Tryz.func111 ?_;simp only[go_sem];refine Aa fun _ a=>Ac 1 fun _ _=>?_;simp only[go_sem]
 refine a (Aa fun _ _=>Aa fun _ b=>Ac 14 fun _ _=>?_);simp only[go_sem,f,i,j];refine b (Al (Aa fun _ e=>Ac 1 fun _ _=>?_));simp only[go_sem];refine e (Ah (Ag ?_));simp only[go_sem];exact Co.of_eq rfl
theorem aaH (c:Int) (h:48≤c∧c≤57) (g d:Nat):ACalls E 111 [.val (.int .u8 c)] [] g d (dI 2) []:=by
 have j:(97≤c)=False:=eq_false (by omega);have n:(c≤122)=True:=eq_true (by omega);have k:(65≤c)=False:=eq_false (by omega);have p:(c≤90)=True:=eq_true (by omega);have l:(48≤c)=True:=eq_true (by omega);have m:(c≤57)=True:=eq_true (by omega);have q:(c=95)=False:=eq_false (by omega);have r:(c=9)=False:=eq_false (by omega);have s:(c=10)=False:=eq_false (by omega);have t:(c=13)=False:=eq_false (by omega);have o:(c=32)=False:=eq_false (by omega);refine Ax 39 Tryz.call111 Tryz.func111 ?_;simp only[go_sem];refine Aa fun _ a=>Ac 1 fun _ _=>?_;simp only[go_sem]
 refine a (Aa fun _ b=>Aa fun _ e=>Ac 14 fun _ _=>?_);simp only[go_sem,j,k];refine e (Aj (Ae (b (Aa fun _ _=>Aa fun _ f=>Ac 6 fun _ _=>?_))));simp only[go_sem,l,m];refine f (Al (Aa fun _ i=>Ac 1 fun _ _=>?_));simp only[go_sem];refine i (Ah (Ag ?_));simp only[go_sem];exact Co.of_eq rfl
theorem aaI (c:Int) (h:c=95) (g d:Nat):ACalls E 111 [.val (.int .u8 c)] [] g d (dI 3) []:=by
 have l:(97≤c)=False:=eq_false (by omega);have r:(c≤122)=True:=eq_true (by omega);have m:(65≤c)=True:=eq_true (by omega);have n:(c≤90)=False:=eq_false (by omega);have o:(48≤c)=True:=eq_true (by omega);have p:(c≤57)=False:=eq_false (by omega);have q:(c=95)=True:=eq_true (by omega);have t:(c=9)=False:=eq_false (by omega);have u:(c=10)=False:=eq_false (by omega);have v:(c=13)=False:=eq_false (by omega);have s:(c=32)=False:=eq_false (by omega);refine Ax 39 Tryz.call111 Tryz.func111 ?_;simp only[go_sem];refine Aa fun _ a=>Ac 1 fun _ _=>?_;simp only[go_sem]
 refine a (Aa fun _ b=>Aa fun _ e=>Ac 14 fun _ _=>?_);simp only[go_sem,l,m,n];refine e (Aj (Ae (b (Aa fun _ f=>Aa fun _ i=>Ac 6 fun _ _=>?_))));simp only[go_sem,o,p];refine i (Aj (Ae (f (Aa fun _ _=>Aa fun _ j=>Ac 2 fun _ _=>?_))));simp only[go_sem,q];refine j (Al (Aa fun _ k=>Ac 1 fun _ _=>?_));simp only[go_sem];refine k (Ah (Ag ?_));simp only[go_sem];exact Co.of_eq rfl
theorem aaJ (c:Int) (h:c=9) (g d:Nat):ACalls E 111 [.val (.int .u8 c)] [] g d (dI 4) []:=by
 have n:(97≤c)=False:=eq_false (by omega);have s:(c≤122)=True:=eq_true (by omega);have o:(65≤c)=False:=eq_false (by omega);have u:(c≤90)=True:=eq_true (by omega);have p:(48≤c)=False:=eq_false (by omega);have v:(c≤57)=True:=eq_true (by omega);have q:(c=95)=False:=eq_false (by omega);have r:(c=9)=True:=eq_true (by omega);have w:(c=10)=False:=eq_false (by omega);have x:(c=13)=False:=eq_false (by omega);have t:(c=32)=False:=eq_false (by omega);refine Ax 39 Tryz.call111 Tryz.func111 ?_;simp only[go_sem];refine Aa fun _ a=>Ac 1 fun _ _=>?_;simp only[go_sem]
 refine a (Aa fun _ e=>Aa fun _ f=>Ac 14 fun _ _=>?_);simp only[go_sem,n,o];refine f (Aj (Ae (e (Aa fun _ i=>Aa fun _ j=>Ac 6 fun _ _=>?_))));simp only[go_sem,p];refine j (Aj (Ae (i (Aa fun _ k=>Aa fun _ l=>Ac 2 fun _ _=>?_))));simp only[go_sem,q];refine l (Aj (Ae (k (Aa fun _ _=>Aa fun _ m=>Ac 14 fun _ _=>?_))));simp only[go_sem,r];refine m (Al (Aa fun _ b=>Ac 1 fun _ _=>?_));simp only[go_sem];refine b (Ah (Ag ?_));simp only[go_sem];exact Co.of_eq rfl
theorem aaK (c:Int) (h:c=10) (g d:Nat):ACalls E 111 [.val (.int .u8 c)] [] g d (dI 4) []:=by
 have n:(97≤c)=False:=eq_false (by omega);have t:(c≤122)=True:=eq_true (by omega);have o:(65≤c)=False:=eq_false (by omega);have v:(c≤90)=True:=eq_true (by omega);have p:(48≤c)=False:=eq_false (by omega);have w:(c≤57)=True:=eq_true (by omega);have q:(c=95)=False:=eq_false (by omega);have r:(c=9)=False:=eq_false (by omega);have s:(c=10)=True:=eq_true (by omega);have x:(c=13)=False:=eq_false (by omega);have u:(c=32)=False:=eq_false (by omega);refine Ax 39 Tryz.call111 Tryz.func111 ?_;simp only[go_sem];refine Aa fun _ a=>Ac 1 fun _ _=>?_;simp only[go_sem]
 refine a (Aa fun _ e=>Aa fun _ f=>Ac 14 fun _ _=>?_);simp only[go_sem,n,o];refine f (Aj (Ae (e (Aa fun _ i=>Aa fun _ j=>Ac 6 fun _ _=>?_))));simp only[go_sem,p];refine j (Aj (Ae (i (Aa fun _ k=>Aa fun _ l=>Ac 2 fun _ _=>?_))));simp only[go_sem,q];refine l (Aj (Ae (k (Aa fun _ _=>Aa fun _ m=>Ac 14 fun _ _=>?_))));simp only[go_sem,r,s];refine m (Al (Aa fun _ b=>Ac 1 fun _ _=>?_));simp only[go_sem];refine b (Ah (Ag ?_));simp only[go_sem];exact Co.of_eq rfl
theorem aaL (c:Int) (h:c=13) (g d:Nat):ACalls E 111 [.val (.int .u8 c)] [] g d (dI 4) []:=by
 have n:(97≤c)=False:=eq_false (by omega);have u:(c≤122)=True:=eq_true (by omega);have o:(65≤c)=False:=eq_false (by omega);have w:(c≤90)=True:=eq_true (by omega);have p:(48≤c)=False:=eq_false (by omega);have x:(c≤57)=True:=eq_true (by omega);have q:(c=95)=False:=eq_false (by omega);have r:(c=9)=False:=eq_false (by omega);have s:(c=10)=False:=eq_false (by omega);have t:(c=13)=True:=eq_true (by omega);have v:(c=32)=False:=eq_false (by omega);refine Ax 39 Tryz.call111 Tryz.func111 ?_;simp only[go_sem];refine Aa fun _ a=>Ac 1 fun _ _=>?_;simp only[go_sem]
 refine a (Aa fun _ e=>Aa fun _ f=>Ac 14 fun _ _=>?_);simp only[go_sem,n,o];refine f (Aj (Ae (e (Aa fun _ i=>Aa fun _ j=>Ac 6 fun _ _=>?_))));simp only[go_sem,p];refine j (Aj (Ae (i (Aa fun _ k=>Aa fun _ l=>Ac 2 fun _ _=>?_))));simp only[go_sem,q];refine l (Aj (Ae (k (Aa fun _ _=>Aa fun _ m=>Ac 14 fun _ _=>?_))));simp only[go_sem,r,s,t];refine m (Al (Aa fun _ b=>Ac 1 fun _ _=>?_));simp only[go_sem];refine b (Ah (Ag ?_));simp only[go_sem];exact Co.of_eq rfl
theorem aaM (c:Int) (h:c=32) (g d:Nat):ACalls E 111 [.val (.int .u8 c)] [] g d (dI 4) []:=by
 have n:(97≤c)=False:=eq_false (by omega);have v:(c≤122)=True:=eq_true (by omega);have p:(65≤c)=False:=eq_false (by omega);have w:(c≤90)=True:=eq_true (by omega);have q:(48≤c)=False:=eq_false (by omega);have x:(c≤57)=True:=eq_true (by omega);have r:(c=95)=False:=eq_false (by omega);have s:(c=9)=False:=eq_false (by omega);have t:(c=10)=False:=eq_false (by omega);have u:(c=13)=False:=eq_false (by omega);have o:(c=32)=True:=eq_true (by omega);refine Ax 39 Tryz.call111 Tryz.func111 ?_;simp only[go_sem];refine Aa fun _ a=>Ac 1 fun _ _=>?_;simp only[go_sem]
 refine a (Aa fun _ e=>Aa fun _ f=>Ac 14 fun _ _=>?_);simp only[go_sem,n,p];refine f (Aj (Ae (e (Aa fun _ i=>Aa fun _ j=>Ac 6 fun _ _=>?_))));simp only[go_sem,q];refine j (Aj (Ae (i (Aa fun _ k=>Aa fun _ l=>Ac 2 fun _ _=>?_))));simp only[go_sem,r];refine l (Aj (Ae (k (Aa fun _ _=>Aa fun _ m=>Ac 14 fun _ _=>?_))));simp only[go_sem,s,t,u,o];refine m (Al (Aa fun _ b=>Ac 1 fun _ _=>?_));simp only[go_sem];refine b (Ah (Ag ?_));simp only[go_sem];exact Co.of_eq rfl
theorem aaN (c:Int) (h:122 < c) (g d:Nat):ACalls E 111 [.val (.int .u8 c)] [] g d (dI 0) []:=by
 have o:(97≤c)=True:=eq_true (by omega);have p:(c≤122)=False:=eq_false (by omega);have r:(65≤c)=True:=eq_true (by omega);have s:(c≤90)=False:=eq_false (by omega);have t:(48≤c)=True:=eq_true (by omega);have u:(c≤57)=False:=eq_false (by omega);have v:(c=95)=False:=eq_false (by omega);have w:(c=9)=False:=eq_false (by omega);have x:(c=10)=False:=eq_false (by omega);have y:(c=13)=False:=eq_false (by omega);have q:(c=32)=False:=eq_false (by omega);refine Ax 39 Tryz.call111 Tryz.func111 ?_;simp only[go_sem];refine Aa fun _ a=>Ac 1 fun _ _=>?_;simp only[go_sem]
 refine a (Aa fun _ e=>Aa fun _ f=>Ac 14 fun _ _=>?_);simp only[go_sem,o,p,r,s];refine f (Aj (Ae (e (Aa fun _ i=>Aa fun _ j=>Ac 6 fun _ _=>?_))));simp only[go_sem,t,u];refine j (Aj (Ae (i (Aa fun _ k=>Aa fun _ l=>Ac 2 fun _ _=>?_))));simp only[go_sem,v];refine l (Aj (Ae (k (Aa fun _ m=>Aa fun _ n=>Ac 14 fun _ _=>?_))));simp only[go_sem,w,x,y,q];refine n (Aj (Ae (m (Aa fun _ b=>Ac 1 fun _ _=>?_))));simp only[go_sem];refine b (Ah (Ag ?_));simp only[go_sem];exact Co.of_eq rfl
theorem aaO (c:Int) (h:91≤c∧c≤96∧c≠95) (g d:Nat):ACalls E 111 [.val (.int .u8 c)] [] g d (dI 0) []:=by
 have o:(97≤c)=False:=eq_false (by omega);have y:(c≤122)=True:=eq_true (by omega);have q:(65≤c)=True:=eq_true (by omega);have r:(c≤90)=False:=eq_false (by omega);have s:(48≤c)=True:=eq_true (by omega);have t:(c≤57)=False:=eq_false (by omega);have u:(c=95)=False:=eq_false (by omega);have v:(c=9)=False:=eq_false (by omega);have w:(c=10)=False:=eq_false (by omega);have x:(c=13)=False:=eq_false (by omega);have p:(c=32)=False:=eq_false (by omega);refine Ax 39 Tryz.call111 Tryz.func111 ?_;simp only[go_sem];refine Aa fun _ a=>Ac 1 fun _ _=>?_;simp only[go_sem]
 refine a (Aa fun _ e=>Aa fun _ f=>Ac 14 fun _ _=>?_);simp only[go_sem,o,q,r];refine f (Aj (Ae (e (Aa fun _ i=>Aa fun _ j=>Ac 6 fun _ _=>?_))));simp only[go_sem,s,t];refine j (Aj (Ae (i (Aa fun _ k=>Aa fun _ l=>Ac 2 fun _ _=>?_))));simp only[go_sem,u];refine l (Aj (Ae (k (Aa fun _ m=>Aa fun _ n=>Ac 14 fun _ _=>?_))));simp only[go_sem,v,w,x,p];refine n (Aj (Ae (m (Aa fun _ b=>Ac 1 fun _ _=>?_))));simp only[go_sem];refine b (Ah (Ag ?_));simp only[go_sem];exact Co.of_eq rfl
theorem Zr (c:Int) (h:58≤c∧c≤64) (g d:Nat):ACalls E 111 [.val (.int .u8 c)] [] g d (dI 0) []:=by
 have o:(97≤c)=False:=eq_false (by omega);have x:(c≤122)=True:=eq_true (by omega);have q:(65≤c)=False:=eq_false (by omega);have y:(c≤90)=True:=eq_true (by omega);have r:(48≤c)=True:=eq_true (by omega);have s:(c≤57)=False:=eq_false (by omega);have t:(c=95)=False:=eq_false (by omega);have u:(c=9)=False:=eq_false (by omega);have v:(c=10)=False:=eq_false (by omega);have w:(c=13)=False:=eq_false (by omega);have p:(c=32)=False:=eq_false (by omega);refine Ax 39 Tryz.call111 Tryz.func111 ?_;simp only[go_sem];refine Aa fun _ a=>Ac 1 fun _ _=>?_;simp only[go_sem]
 refine a (Aa fun _ e=>Aa fun _ f=>Ac 14 fun _ _=>?_);simp only[go_sem,o,q];refine f (Aj (Ae (e (Aa fun _ i=>Aa fun _ j=>Ac 6 fun _ _=>?_))));simp only[go_sem,r,s];refine j (Aj (Ae (i (Aa fun _ k=>Aa fun _ l=>Ac 2 fun _ _=>?_))));simp only[go_sem,t];refine l (Aj (Ae (k (Aa fun _ m=>Aa fun _ n=>Ac 14 fun _ _=>?_))));simp only[go_sem,u,v,w,p];refine n (Aj (Ae (m (Aa fun _ b=>Ac 1 fun _ _=>?_))));simp only[go_sem];refine b (Ah (Ag ?_));simp only[go_sem];exact Co.of_eq rfl
theorem Zs (c:Int) (h:c < 48∧c≠9∧c≠10∧c≠13∧c≠32) (g d:Nat):ACalls E 111 [.val (.int .u8 c)] [] g d (dI 0) []:=by
 have o:(97≤c)=False:=eq_false (by omega);have w:(c≤122)=True:=eq_true (by omega);have q:(65≤c)=False:=eq_false (by omega);have x:(c≤90)=True:=eq_true (by omega);have r:(48≤c)=False:=eq_false (by omega);have y:(c≤57)=True:=eq_true (by omega);have s:(c=95)=False:=eq_false (by omega);have t:(c=9)=False:=eq_false (by omega);have u:(c=10)=False:=eq_false (by omega);have v:(c=13)=False:=eq_false (by omega);have p:(c=32)=False:=eq_false (by omega);refine Ax 39 Tryz.call111 Tryz.func111 ?_;simp only[go_sem];refine Aa fun _ a=>Ac 1 fun _ _=>?_;simp only[go_sem]
 refine a (Aa fun _ e=>Aa fun _ f=>Ac 14 fun _ _=>?_);simp only[go_sem,o,q];refine f (Aj (Ae (e (Aa fun _ i=>Aa fun _ j=>Ac 6 fun _ _=>?_))));simp only[go_sem,r];refine j (Aj (Ae (i (Aa fun _ k=>Aa fun _ l=>Ac 2 fun _ _=>?_))));simp only[go_sem,s];refine l (Aj (Ae (k (Aa fun _ m=>Aa fun _ n=>Ac 14 fun _ _=>?_))));simp only[go_sem,t,u,v,p];refine n (Aj (Ae (m (Aa fun _ b=>Ac 1 fun _ _=>?_))));simp only[go_sem];refine b (Ah (Ag ?_));simp only[go_sem];exact Co.of_eq rfl
def cls (c:Int):Int:=if (97≤c∧c≤122)∨(65≤c∧c≤90) then 1 else if 48≤c∧c≤57 then 2 else if c=95 then 3 else if c=9∨c=10∨c=13∨c=32 then 4 else 0
theorem JI (c:Int) (g d:Nat):ACalls E 111 [.val (.int .u8 c)] [] g d (dI (cls c)) []:=by
 have n:(97≤c∧c≤122)∨(65≤c∧c≤90)∨(48≤c∧c≤57)∨(c=95)∨(c=9)∨(c=10)∨(c=13)∨(c=32)∨(122 < c)∨(91≤c∧c≤96∧c≠95)∨(58≤c∧c≤64)∨(c < 48∧c≠9∧c≠10∧c≠13∧c≠32):=by omega
 have e:((97≤c∧c≤122)∨(65≤c∧c≤90))→cls c=1:=fun h=>by unfold cls; rw[if_pos h]
 have f:(48≤c∧c≤57)→cls c=2:=fun h=>by unfold cls; rw[if_neg (by omega),if_pos h]
 have i:c=95→cls c=3:=fun h=>by unfold cls; rw[if_neg (by omega),if_neg (by omega),if_pos h]
 have b:(c=9∨c=10∨c=13∨c=32)→cls c=4:=fun h=>by unfold cls; rw[if_neg (by omega),if_neg (by omega),if_neg (by omega),if_pos h]
 have a:¬ ((97≤c∧c≤122)∨(65≤c∧c≤90))→¬ (48≤c∧c≤57)→¬ c=95→¬ (c=9∨c=10∨c=13∨c=32)→cls c=0:=fun j k l m=>by unfold cls; rw[if_neg j,if_neg k,if_neg l,if_neg m]
 rcases n with h | h | h | h | h | h | h | h | h | h | h | h
 ·rw[e (by omega)]; exact aaF c h g d
 ·rw[e (by omega)]; exact aaG c h g d
 ·rw[f (by omega)]; exact aaH c h g d
 ·rw[i (by omega)]; exact aaI c h g d
 ·rw[b (by omega)]; exact aaJ c h g d
 ·rw[b (by omega)]; exact aaK c h g d
 ·rw[b (by omega)]; exact aaL c h g d
 ·rw[b (by omega)]; exact aaM c h g d
 ·rw[a (by omega) (by omega) (by omega) (by omega)]; exact aaN c h g d
 ·rw[a (by omega) (by omega) (by omega) (by omega)]; exact aaO c h g d
 ·rw[a (by omega) (by omega) (by omega) (by omega)]; exact Zr c h g d
 ·rw[a (by omega) (by omega) (by omega) (by omega)]; exact Zs c h g d
def rw0:Str:=⟨#[112,97,99,107,97,103,101]⟩
def rw1:Str:=⟨#[109,97,105,110]⟩
def rw2:Str:=⟨#[116,121,112,101]⟩
def rw3:Str:=⟨#[115,116,114,117,99,116]⟩
def rw4:Str:=⟨#[105,110,116,101,114,102,97,99,101]⟩
def rw5:Str:=⟨#[102,117,110,99]⟩
def rw6:Str:=⟨#[114,101,116,117,114,110]⟩
theorem NJ (s:Str):∃ b:Bool,∀ g d,ACalls E 112 [encS s] [] g d (dB b) []:=by
 by_cases h0:s=⟨#[112,97,99,107,97,103,101]⟩
 ·refine ⟨true,fun g d=>?_⟩;subst h0;refine Ax 27 Tryz.call112 Tryz.func112 ?_;simp only[go_sem];refine Aa fun h a=>Ac 1 fun l n=>?_;simp only[go_sem];refine a (Aa fun i f=>Aa fun j c=>Ac 14 fun m o=>?_);simp only[go_sem];refine c (Al (Aa fun k e=>Ac 1 fun p r=>?_));simp only[go_sem];refine e (Ah (Ag ?_));simp only[go_sem];exact Co.refl _
 by_cases u:s=⟨#[109,97,105,110]⟩
 ·refine ⟨true,fun g d=>?_⟩;subst u;refine Ax 27 Tryz.call112 Tryz.func112 ?_;simp only[go_sem];refine Aa fun h a=>Ac 1 fun l n=>?_;simp only[go_sem];refine a (Aa fun i f=>Aa fun j c=>Ac 14 fun m o=>?_);simp only[go_sem,show ((⟨#[109,97,105,110]⟩:Str)=⟨#[112,97,99,107,97,103,101]⟩)=False from eq_false (by decide),decide_true,decide_false];refine c (Al (Aa fun k e=>Ac 1 fun p r=>?_));simp only[go_sem];refine e (Ah (Ag ?_));simp only[go_sem];exact Co.refl _
 by_cases v:s=⟨#[116,121,112,101]⟩
 ·refine ⟨true,fun g d=>?_⟩;subst v;refine Ax 27 Tryz.call112 Tryz.func112 ?_;simp only[go_sem];refine Aa fun h a=>Ac 1 fun l n=>?_;simp only[go_sem];refine a (Aa fun i f=>Aa fun j c=>Ac 14 fun m o=>?_);simp only[go_sem,show ((⟨#[116,121,112,101]⟩:Str)=⟨#[112,97,99,107,97,103,101]⟩)=False from eq_false (by decide),show ((⟨#[116,121,112,101]⟩:Str)=⟨#[109,97,105,110]⟩)=False from eq_false (by decide),decide_true,decide_false];refine c (Al (Aa fun k e=>Ac 1 fun p r=>?_));simp only[go_sem];refine e (Ah (Ag ?_));simp only[go_sem];exact Co.refl _
 by_cases w:s=⟨#[115,116,114,117,99,116]⟩
 ·refine ⟨true,fun g d=>?_⟩;subst w;refine Ax 27 Tryz.call112 Tryz.func112 ?_;simp only[go_sem];refine Aa fun h a=>Ac 1 fun l n=>?_;simp only[go_sem];refine a (Aa fun i f=>Aa fun j c=>Ac 14 fun m o=>?_);simp only[go_sem,show ((⟨#[115,116,114,117,99,116]⟩:Str)=⟨#[112,97,99,107,97,103,101]⟩)=False from eq_false (by decide),show ((⟨#[115,116,114,117,99,116]⟩:Str)=⟨#[109,97,105,110]⟩)=False from eq_false (by decide),show ((⟨#[115,116,114,117,99,116]⟩:Str)=⟨#[116,121,112,101]⟩)=False from eq_false (by decide),decide_true,decide_false];refine c (Al (Aa fun k e=>Ac 1 fun p r=>?_))
  simp only[go_sem];refine e (Ah (Ag ?_));simp only[go_sem];exact Co.refl _
 by_cases x:s=⟨#[105,110,116,101,114,102,97,99,101]⟩
 ·refine ⟨true,fun g d=>?_⟩;subst x;refine Ax 27 Tryz.call112 Tryz.func112 ?_;simp only[go_sem];refine Aa fun h a=>Ac 1 fun l n=>?_;simp only[go_sem];refine a (Aa fun i f=>Aa fun j c=>Ac 14 fun m o=>?_)
  simp only[go_sem,show ((⟨#[105,110,116,101,114,102,97,99,101]⟩:Str)=⟨#[112,97,99,107,97,103,101]⟩)=False from eq_false (by decide),show ((⟨#[105,110,116,101,114,102,97,99,101]⟩:Str)=⟨#[109,97,105,110]⟩)=False from eq_false (by decide),show ((⟨#[105,110,116,101,114,102,97,99,101]⟩:Str)=⟨#[116,121,112,101]⟩)=False from eq_false (by decide),show ((⟨#[105,110,116,101,114,102,97,99,101]⟩:Str)=⟨#[115,116,114,117,99,116]⟩)=False from eq_false (by decide),decide_false];refine c (Aj (Ae (f (Aa fun k e=>Ac 11 fun q t=>?_))));simp only[go_sem];refine e (Ah (Ag ?_));simp only[go_sem];exact Co.refl _
 by_cases y:s=⟨#[102,117,110,99]⟩
 ·refine ⟨true,fun g d=>?_⟩;subst y;refine Ax 27 Tryz.call112 Tryz.func112 ?_;simp only[go_sem];refine Aa fun h a=>Ac 1 fun l n=>?_;simp only[go_sem];refine a (Aa fun i f=>Aa fun j c=>Ac 14 fun m o=>?_);simp only[go_sem,show ((⟨#[102,117,110,99]⟩:Str)=⟨#[112,97,99,107,97,103,101]⟩)=False from eq_false (by decide),show ((⟨#[102,117,110,99]⟩:Str)=⟨#[109,97,105,110]⟩)=False from eq_false (by decide),show ((⟨#[102,117,110,99]⟩:Str)=⟨#[116,121,112,101]⟩)=False from eq_false (by decide),show ((⟨#[102,117,110,99]⟩:Str)=⟨#[115,116,114,117,99,116]⟩)=False from eq_false (by decide),decide_false]
  refine c (Aj (Ae (f (Aa fun k e=>Ac 11 fun q t=>?_))));simp only[go_sem,show ((⟨#[102,117,110,99]⟩:Str)=⟨#[105,110,116,101,114,102,97,99,101]⟩)=False from eq_false (by decide),decide_true,decide_false];refine e (Ah (Ag ?_));simp only[go_sem];exact Co.refl _
 by_cases z:s=⟨#[114,101,116,117,114,110]⟩
 ·refine ⟨true,fun g d=>?_⟩;subst z;refine Ax 27 Tryz.call112 Tryz.func112 ?_;simp only[go_sem];refine Aa fun h a=>Ac 1 fun l n=>?_;simp only[go_sem];refine a (Aa fun i f=>Aa fun j c=>Ac 14 fun m o=>?_)
  simp only[go_sem,show ((⟨#[114,101,116,117,114,110]⟩:Str)=⟨#[112,97,99,107,97,103,101]⟩)=False from eq_false (by decide),show ((⟨#[114,101,116,117,114,110]⟩:Str)=⟨#[109,97,105,110]⟩)=False from eq_false (by decide),show ((⟨#[114,101,116,117,114,110]⟩:Str)=⟨#[116,121,112,101]⟩)=False from eq_false (by decide),show ((⟨#[114,101,116,117,114,110]⟩:Str)=⟨#[115,116,114,117,99,116]⟩)=False from eq_false (by decide),decide_false];refine c (Aj (Ae (f (Aa fun k e=>Ac 11 fun q t=>?_))))
  simp only[go_sem,show ((⟨#[114,101,116,117,114,110]⟩:Str)=⟨#[105,110,116,101,114,102,97,99,101]⟩)=False from eq_false (by decide),show ((⟨#[114,101,116,117,114,110]⟩:Str)=⟨#[102,117,110,99]⟩)=False from eq_false (by decide),decide_true,decide_false];refine e (Ah (Ag ?_));simp only[go_sem];exact Co.refl _
 refine ⟨false,fun g d=>?_⟩;refine Ax 27 Tryz.call112 Tryz.func112 ?_;simp only[go_sem];refine Aa fun h a=>Ac 1 fun l n=>?_;simp only[go_sem];refine a (Aa fun i f=>Aa fun j c=>Ac 14 fun m o=>?_);simp only[go_sem,h0,u,v,w];refine c (Aj (Ae (f (Aa fun k e=>Ac 11 fun q t=>?_))));simp only[go_sem,x,y,z];refine e (Ah (Ag ?_));simp only[go_sem];exact Co.refl _
noncomputable def resS (s:Str):Bool:=Classical.choose (NJ s)
theorem Qq (s:Str) (g d:Nat):ACalls E 112 [encS s] [] g d (dB (resS s)) []:=Classical.choose_spec (NJ s) g d
noncomputable def okB (b:UInt8):Bool:=!decide (cls b.toNat=0) && !decide (cls b.toNat=4)
noncomputable def nmOk (s:Str):Bool:=match s.data.toList with
 | []=>false
 | b :: _=>decide (cls b.toNat=1) && s.data.toList.all okB && !resS s
set_option maxRecDepth 100000 in
theorem CG (s:Str) (hs:s.size≤9223372036854775807) (g d:Nat):ACalls E 65 [encS s] [] g d (dB (nmOk s)) []:=by
 have o:s.size=s.data.toList.length:=by rw[gV]; rfl
 by_cases h0:s.size=0
 ·have c:nmOk s=false:=by
   unfold nmOk;rw[ex (by omega:s.data.toList.length=0)]
  have l : ((s.size:Int)=0)=True:=eq_true (by omega);rw[c];refine Ax 33 Tryz.call65 Tryz.func65 ?_;simp only[go_sem];refine Aa fun A e=>Ac 1 fun F J=>?_;simp only[go_sem];refine e (Aa fun B q=>Aa fun C f=>Ac 9 fun G K=>?_);simp only[go_sem,l];refine f (Al (Aa fun D h=>Ac 1 fun S a5=>?_));simp only[go_sem];refine h (Ah (Ag ?_));simp only[go_sem];exact Co.refl _
 ·have l : ((s.size:Int)=0)=False:=eq_false (by omega);have P:0 < s.size:=by omega
  obtain ⟨b,r,v⟩:∃ b r,s.data.toList=b :: r:=by
   cases hl:s.data.toList with
   | nil=>rw[hl] at o; exact absurd (show s.size=0 from o) h0
   | cons b r=>exact ⟨b,r,rfl⟩
  have a9:0 < s.data.toList.length:=by rw[← o]; exact P
  have a4:s.data.toList[0]'a9=b:=by simp[v]
  have M:s[0]?=some b:=by rw[Fb P,a4]
  by_cases n:cls b.toNat=1
  ·have c:nmOk s=(s.data.toList.all okB && !resS s):=by
    unfold nmOk;rw[v];simp[n]
   refine Ax 33 Tryz.call65 Tryz.func65 ?_;simp only[go_sem];refine Aa fun A e=>Ac 1 fun F J=>?_;simp only[go_sem];refine e (Aa fun B q=>Aa fun C f=>Am fun G K ac R a t=>Af 6 a ?_);simp only[go_sem];try simp only[go_sem,l,M]
   refine Ak a (JI _ _ _) ?_;refine Ad 2 a ?_;simp only[go_sem,n];refine t (f (Aj (Ae (q (Aa fun D h=>Aa fun _ Y=>Ac 1 fun _ _=>?_)))));simp only[go_sem];refine Y (Ai ?_);refine Ay (fun m Q=>∃ k,k≤s.size∧m=s.size - k∧(s.data.toList.take k).all okB=true∧Le { env:=[(0,encS s),(3,dN k)],σ:=[] } Q) s.size ?_ ?_
   ·refine ⟨0,dX _,rfl,rfl,Ao ?_⟩;simp only[go_sem];all_goals first|trivial|omega
   ·rintro m Q ⟨k,hk,rfl,u,N⟩;refine Az N ?_;clear N;refine Aa fun _ Z=>Aa fun _ I=>?_;by_cases O:k < s.size
    ·have x : ((k:Int) < (s.size:Int))=True:=eq_true (by omega);have aa:(0:Int)≤(k:Int):=by omega
     have ab:(s.data.toList.take (k + 1)).all okB=okB (s.data.toList[k]'(by omega)):=by
      rw[ep,dO (by omega:k < s.data.toList.length),gu,u];simp
     refine Ac 4 fun T a6=>?_;simp only[go_sem,x];refine I (Al (Ae (Z (Aa fun _ a0=>Ai (Aa fun _ a1=>Am fun _ _ _ _ y a2=>Af 3 y ?_)))));simp only[go_sem,aa,Fb O];refine Ak y (JI _ _ _) ?_;refine Ad 1 y ?_;simp only[go_sem];refine a2 (a1 (Aa fun _ p=>?_));by_cases i:cls (s.data.toList[k]'(by omega)).toNat=0
     ·have w:nmOk s=false:=by
       rw[c];have:s.data.toList.all okB=false:=by
        rw[fH];exact ⟨_,dP (by omega:k < s.data.toList.length),by simp only[okB,i,decide_true,fQ,fc]; decide⟩
       rw[this]; rfl
      refine Ac 6 fun H L=>?_;simp only[go_sem,i];refine p (Al (Aa fun _ V=>Ac 1 fun U a7=>?_));simp only[go_sem];refine V (Ah (Ag ?_));simp only[go_sem];exact Co.of_eq (by rw[w])
     ·by_cases j:cls (s.data.toList[k]'(by omega)).toNat=4
      ·have w:nmOk s=false:=by
        rw[c];have:s.data.toList.all okB=false:=by
         rw[fH];exact ⟨_,dP (by omega:k < s.data.toList.length),by simp only[okB,j,decide_true,fQ,fN]; decide⟩
        rw[this]; rfl
       refine Ac 6 fun H L=>?_;simp only[go_sem,j];refine p (Al (Aa fun _ W=>Ac 1 fun U a7=>?_));simp only[go_sem];refine W (Ah (Ag ?_));simp only[go_sem];exact Co.of_eq (by rw[w])
      ·refine Ac 6 fun H L=>?_;simp only[go_sem,i,j];refine p (Aj (Ae (a0 (Ac 3 fun _ _=>?_))));simp only[go_sem];try simp (disch:=omega) only[Au]
       refine ⟨_,?_,k + 1,O,rfl,?_,Ao ?_⟩
       ·omega
       ·rw[ab]; simp only[okB,i,j,decide_false,f7,Bool.and_self]
       simp only[go_sem];all_goals first|trivial|omega
    ·have:k=s.size:=by omega
     subst this;have x : ((s.size:Int) < (s.size:Int))=False:=eq_false (by omega);rw[o,eo] at u;refine Ac 4 fun T a6=>?_;simp only[go_sem,x];refine I (Aj (Aq (h (Aa fun _ X=>Am fun _ _ _ _ z a3=>Af 1 z ?_))));simp only[go_sem];refine Ak z (Qq s _ _) ?_;refine Ad 2 z ?_;simp only[go_sem];refine a3 (X (Ah (Ag ?_)));simp only[go_sem];exact Co.of_eq (by rw[c,u]; simp[])
  ·have c:nmOk s=false:=by
    unfold nmOk;rw[v];simp[n]
   refine Ax 33 Tryz.call65 Tryz.func65 ?_;simp only[go_sem];refine Aa fun A e=>Ac 1 fun F J=>?_;simp only[go_sem];refine e (Aa fun B q=>Aa fun C f=>Am fun G K ac R a t=>Af 6 a ?_);simp only[go_sem];try simp only[go_sem,l,M]
   refine Ak a (JI _ _ _) ?_;refine Ad 2 a ?_;simp only[go_sem,n];refine t (f (Al (Aa fun D h=>Ac 1 fun S a5=>?_)));simp only[go_sem];refine h (Ah (Ag ?_));simp only[go_sem];exact Co.of_eq (by rw[c])
end Go.Proofs.T
namespace Go.Ab
open Go Go.RowKit
section
variable {E:Ctx} {N:Nat} {l:List Oper} {g:Nat} {st:St}
def IP (N:Nat) (l:List Oper) (nq:Nat):Bool :=
 EJ N l && FD 0 l && Fp (JR (masks l []) l) 0 l && Fp (fun i _=>decide (i < nq) || (List.range nq).all fun j=>bit (masks l []) i j) 0 l
theorem XO {w0:World} (hA:E.A w0) {nq:Nat} (hok:IP N l nq=true) {tr:List (D × Sto)} {env' : List (Nat × D)} (htr:QTrace E l g st.σ (l.take nq) st.env tr env') (hσg:∀ i j,get st.σ ⟨g,i,j⟩=none)
  {G1:Gh} {w1:World} {L:Nat→Bool} {G:Gh} {w:World} {a:Act} (hI:Inv w0 E N l g st tr G1 w1 L G w a) {i:Nat} {o:Oper} (hi:l[i]?=some o) (hin:i < nq) (hL:L i=false) (hready:∀ e∈o.after,Region.binds .any e=true→L e.on=true)
  {L' : Nat→Bool} (hL' : L' i=true) (hLo:∀ j,j≠i→L' j=L j) {Q' : Exit→Act→World→Prop} {K:Act→World→Prop} (hK:∀ G' w' a',Inv w0 E N l g st tr G1 w1 L' G' w' a'→K a' w'):∀ r,wpOpIn (Fr r) 0 E.P l.toArray Q' i K a w:=by
 intro rd;simp only[IP,ej] at hok;obtain ⟨⟨⟨hd,hE⟩,ax⟩,_⟩:=hok;obtain ⟨a4,aj⟩:=Cq hd;have a2:=BX ax i o hi;simp only[eN] at a2;have hq:(l.take nq)[i]?=some o:=by rw[eb,if_pos hin]; exact hi
 obtain ⟨ad,v,U,aB,a8,aA⟩:=htr.split i o hq
 -- a temporary that the operation looks at holds what it did in the order of the text
 have a7:∀ t d,t∈looks l o→lk ad t=some d→t < a.tmps.size∧V G w (a.tmps.getD t undef) d:=by
  intro t d Y J;rw[hI.size];rcases aB.env t with ⟨j,k,v',W,H,O,u,k4⟩ | ⟨H,O⟩
  ·rw[k4] at J;cases J;have s:j < i∧l[j]?=some k:=by
    rw[eb] at H;split at H
    ·rename_i Q;rw[eb] at H;split at H
     ·exact ⟨Q,H⟩
     ·cases H
    ·cases H
   have I:=CC a2 Y s.2 O (by omega);rw[if_pos s.1] at I;obtain ⟨m,hm,a0⟩:=BJ I;have b:=anc hE hI.down i o hi hready j m hm a0;have aD : tr[j]?=some (d,W):=by
    rw[eb] at u;split at u
    ·exact u
    ·cases u
   exact ⟨aj k (ew s.2) t O,hI.new j k t d W b s.2 O aD⟩
  ·rw[O] at J;refine hI.old t d J fun j k b c z=>?_;have s:¬ j < i:=fun h=>H j k (by rw[eb,if_pos h,eb,if_pos (by omega)]; exact c) z;have X:j≠i:=fun e=>by subst e; rw[hL] at b; cases b
   have I:=CC a2 Y c z X;rw[if_neg s] at I;obtain ⟨m,hm,a0⟩:=BJ I;have:=anc hE hI.down j k c (hI.down j k c b) i m hm a0;rw[hL] at this;cases this
 have au:∀ d,o.dst=some d→d < a.tmps.size:=fun d a1=>by rw[hI.size]; exact aj o (ew hi) d a1
 have aO:=htr.length;have aN:i < (l.take nq).length:=(dW.1 hq).1
 -- Z of different operations' new things are different
 have Z:∀ (j:Nat) p,tr[j]?=some p→∀ q∈p.2,q.1.g=g∧∃ k,l[j]?=some k∧k.dst=some q.1.i:=by
  intro j p B q T;have aw:j < (l.take nq).length:=by have:=(dW.1 B).1; omega
  have S:(l.take nq)[j]?=some (l.take nq)[j]:=dO aw;obtain ⟨_,v',W,_,O,u⟩:=htr.split j _ S;rw[B] at O;cases O;have ay : l[j]?=some (l.take nq)[j]:=by
   rw[eb] at S;split at S
   ·exact S
   ·cases S
  rcases u with ⟨_,_,u⟩ | ⟨_,_,u⟩
  ·exact ⟨(u q T).1,_,ay,(u q T).2⟩
  ·simp only at T;rw[u] at T;cases T
 have aq:∀ (j:Nat) p,tr[j]?=some p→0 + j≠i→Dis (get U) (get p.2):=by
  intro j p B X n;cases Q:get U n with
  | none=>exact .inl rfl
  | some x =>
   cases R:get p.2 n with
   | none=>exact .inr rfl
   | some y =>
    obtain ⟨_,o1,q1,q2⟩:=Z i _ a8 (n,x) (AQ Q);obtain ⟨_,o2,q3,q4⟩:=Z j _ B (n,y) (AQ R);exact absurd (Cf a4 i j o1 o2 _ q1 q3 q2 q4) (by omega)
 have al:=KG hL hL' hLo 0 tr (get st.σ) v U (dX _) (by simpa using a8) aq
 -- what follows once a value is there
 have ag:∀ G' w' x,WF w0 G' w'→V G' w' x v→Objs w0 G' w' (kapp L' 0 tr (get st.σ))→Step (rsv g o.dst) G w (kapp L 0 tr (get st.σ)) G' w' (kapp L' 0 tr (get st.σ))→K (a.put o.dst x) w':=by
  intro G' w' x ab hv ho M;have an:∀ t,o.dst≠some t→(a.put o.dst x).tmps.getD t undef=a.tmps.getD t undef:=by
   intro t Y;cases ar:o.dst with
   | none=>rfl
   | some d =>
    simp only[Act.put,er,eW];rw[if_neg (fun e=>Y (by rw[ar,e]))]
  refine hK G' w' _ ⟨by rw[EB,hI.size],by cases o.dst <;> exact hI.defers.step M hI.wf hI.objs,ab,fun t d J ak=>?_,fun j k t v' W b c z B=>?_,ho,⟨eV hI.fresh.1 M.top,fun j k d b c z q=>?_⟩,hI.step.trans (M.weaken fun n _ F=>F.1),fun j k c b e C I=>?_⟩
  ·have X:o.dst≠some t:=ak i o hL' hi;rw[an t X];obtain ⟨Q,R⟩:=hI.old t d J fun j k b c=>by
    by_cases s:j=i
    ·subst s; rw[hL] at b; cases b
    ·exact ak j k (by rw[hLo j s]; exact b) c
   exact ⟨Q,R.step M hI.wf hI.objs⟩
  ·by_cases s:j=i
   ·subst s;rw[hi] at c;cases c;rw[a8] at B;cases B;have:=au t z;simp only[z,Act.put,er,eW];simp only[↓reduceIte,this,eX];exact hv
   ·rw[hLo j s] at b;rw[an t fun e=>s (Cf a4 j i k o t c hi z e)];exact (hI.new j k t v' W b c z B).step M hI.wf hI.objs
  ·have s:j≠i:=fun e=>by subst e; rw[hL'] at b; cases b
   rw[hLo j s] at b;exact M.fresh hI.fresh.1 (hI.fresh.2 j k d b c z q) fun ⟨_,C⟩=>s (Cf a4 j i k o d c hi z C)
  ·have keep:L e.on=true→L' e.on=true:=fun h=>by
    by_cases h' : e.on=i
    ·rw[h']; exact hL'
    ·rw[hLo _ h']; exact h
   by_cases s:j=i
   ·subst s;rw[hi] at c;cases c;exact keep (hready e C I)
   ·simp only at b;rw[hLo j s] at b;exact keep (hI.down j k c b e C I)
 unfold wpOpIn;simp only[eA,hi];rcases aA with ⟨hw,az,_⟩ | ⟨hw,rfl,rfl⟩
 ·rw[if_pos (Dn hw a7)];have a6:∀ n x,get st.σ n=some x→kapp L 0 tr (get st.σ) n=some x:=by
   intro n x F;rw[GY 0 tr _ fun p B=>?_]
   ·exact F
   ·cases hg:get p.2 n with
    | none=>rfl
    | some y =>
     obtain ⟨j,c⟩:=fg.1 B;have:=(Z j p c (n,y) (AQ hg)).1;obtain ⟨ng,ni,nj⟩:=n;have aM : ng=g:=this;subst aM;rw[hσg] at F;cases F
  refine az w0 hA G w a hI.wf (fun x hx=>?_) (hI.objs.sub a6) (fun d a1=>⟨hI.fresh.1,fun j=>hI.fresh.2 i o d hL hi a1 j⟩) K Q' (fun G' w' x ab hv ho M=>?_) rd
  ·cases x with
   | tmp t =>
    simp only[Act.eval,Ab.ev];cases J:lk ad t with
    | none=>exact .any _
    | some d=>exact (a7 t d (by unfold looks; exact eI _ (fJ.2 ⟨.tmp t,by simpa using hx,rfl⟩)) J).2
   | const v=>exact V.ofV G w v
   | global g=>exact E.hglob w0 hA G w hI.wf g
   | func f=>exact .func rfl rfl (by simp) (by simp)
  ·obtain ⟨f1,f2⟩:=frame (κs:=get st.σ) (τ:=fun n=>if get st.σ n=none then kapp L 0 tr (get st.σ) n else none) hI.wf hI.objs a6 (fun n x F=>by
    split at F
    ·rename_i h0; exact ⟨F,h0⟩
    ·cases F) M ho
   have C:Kp.or (Kp.or (get U) (get st.σ)) (fun n=>if get st.σ n=none then kapp L 0 tr (get st.σ) n else none)=kapp L' 0 tr (get st.σ):=by
    rw[al]
    funext n
    simp only[Kp.or];cases Q:get U n with
    | some y=>simp
    | none =>
     simp only[fM];cases R:get st.σ n with
     | none=>simp
     | some y=>simp[a6 n y R]
   rw[C] at f1 f2;exact ag G' w' x ab hv f1 f2
 ·rw[Dn hw a7,if_neg (by simp)];refine ⟨fun f _=>Fi rd f,?_⟩;have C:kapp L' 0 tr (get st.σ)=kapp L 0 tr (get st.σ):=by
   rw[al]
   funext n
   simp[Kp.or,get]
  exact ag G w undef hI.wf (.val _) (by rw[C]; exact hI.objs) (by rw[C]; exact .refl _ _ _ _)
theorem UM {rd:Option Nat} {w0:World} (hA:E.A w0) {nq:Nat} (hnq:nq≤l.length) (hok:IP N l nq=true) {tr:List (D × Sto)} {env' : List (Nat × D)} (htr:QTrace E l g st.σ (l.take nq) st.env tr env') (hσg:∀ i j,get st.σ ⟨g,i,j⟩=none)
  {G1:Gh} {w1:World} {Q' : Exit→Act→World→Prop} (hend:∀ (A:Array Bool) G w a,A.size=l.length→(∀ j,j < l.length→A.getD j true=decide (j < nq))→Inv w0 E N l g st tr G1 w1 (fun j=>A.getD j false) G w a→wpAnyIn (Fr rd) 0 E.P .any l.toArray Q' (l.length - nq) A a w) :
  ∀ (fuel:Nat) (A:Array Bool) (G:Gh) (w:World) (a:Act),A.size=l.length→left A l.length=fuel→(∀ j,nq≤j→j < l.length→A.getD j true=false)→Inv w0 E N l g st tr G1 w1 (fun j=>A.getD j false) G w a →
   wpAnyIn (Fr rd) 0 E.P .any l.toArray Q' fuel A a w:=by
 have z:=hok;simp only[IP,ej] at z;obtain ⟨⟨⟨_,u⟩,_⟩,V⟩:=z;have same:∀ (A:Array Bool) (j:Nat),A.size=l.length→j < l.length→A.getD j true=A.getD j false:=fun A j b c=>by
  simp[show j < A.size by omega]
 intro fuel;induction fuel with
 | zero =>
  intro A G w a d x k f;have s:=CZ x;have Z:nq=l.length:=by
   refine gs hnq (fX fun y=>?_);have b:=s nq y;rw[k nq (ec _) y] at b;cases b
  have:=hend A G w a d (fun j n=>by rw[s j n]; simp; omega) f;rw[show l.length - nq=0 by omega] at this;exact this
 | succ fuel ih =>
  intro A G w a d x k f;by_cases r:left A nq=0
  ·have s:=CZ r;have Y:left A l.length=l.length - nq:=by
    have:∀ m,nq≤m→m≤l.length→left A m=m - nq:=by
     intro m;induction m with
     | zero=>intro b _; rw[im.1 b] at r; simp[left]
     | succ m W =>
      intro b c;by_cases p:nq=m + 1
      ·rw[← p,r]; omega
      ·rw[Do,W (by omega) (by omega),k m (by omega) (by omega)];simp;omega
    exact this _ hnq (ec _)
   have:=hend A G w a d (fun j n=>by
    by_cases h:j < nq
    ·rw[s j h]; simp[h]
    ·rw[k j (by omega) n]; simp[h]) f
   rw[show l.length - nq=fuel + 1 by omega] at this;exact this
  ·obtain ⟨q,a0,B,U⟩:=F7 r;have T:l[q]?=some l[q]:=dO (by omega);have C:q∈Region.ready .any l.toArray A:=by
    refine mem_ready.2 ⟨B,l[q],by simp,fun e L t=>?_⟩;have:=BU 0 l u q _ T e L t;rw[← same A e.on d (by omega)];exact U e.on (by omega)
   refine ⟨fun h0=>(by rw[h0] at C; cases C),fun i M=>?_⟩;obtain ⟨b,o,c,p⟩:=mem_ready.1 M;simp only[eA] at c;have v:=(dW.1 c).1;have O:i < nq:=by
    refine gH fun _=>?_;have F:=BX V i o c;simp only[eN,fW,decide_eq_true_eq,eL] at F;have t:=(F.resolve_left (by omega)) q (fE.2 (by omega));obtain ⟨m,S,K⟩:=BJ t;have:=anc u f.down i o c p q m S K;rw[← same A q d (by omega),B] at this;cases this
   refine XO hA hok htr hσg f c O (by rw[← same A i d v]; exact b) p (L':=fun j=>(A.setIfInBounds i true).getD j false) (by simp[show i < A.size by omega]) (fun j n=>getD_set_ne false (Ne.symm n)) (fun H X I J=>?_) rd;refine ih (A.setIfInBounds i true) H X I (by simpa using d) ?_ (fun j Q R=>by rw[getD_set_ne true (by omega)]; exact k j Q R) J;have:=Fq A b l.length;rw[if_pos v] at this;omega
def AAny (E:Ctx) (N:Nat) (l:List Oper) (g:Nat) (Q:St→Prop) (A:Array Bool) (st:St):Prop :=
 ∀ w0,E.A w0→∀ G w a,a.tmps.size=N→Rel w0 G w a st→g < G.top→(∀ (i:Nat) o d,l[i]?=some o→A.getD i true=false→o.dst=some d→d < N∧∀ j,G.ρ ⟨g,d,j⟩=none) →
  ∀ (Q' : Exit→Act→World→Prop),(∀ G' st' a' w',a'.tmps.size=N→Rel w0 G' w' a' st'→Step (fun n=>n.g=g) G w (get st.σ) G' w' (get st'.σ)→Q st'→Q' .normal a' w') →
   ∀ r,wpAnyIn (Fr r) 0 E.P .any l.toArray Q' (left A l.length) A a w
theorem Es {Q:St→Prop} {A:Array Bool} (hr:Region.ready .any l.toArray A=[]) (hl:left A l.length=0) (h:Q st):AAny E N l g Q A st:=by
 intro k f G w a b d j i e c r;rw[hl];exact ⟨hr,c G st a w b d (.refl _ _ _ _) h⟩
def AGo (E:Ctx) (N:Nat) (l:List Oper) (g:Nat) (Q:St→Prop) (A:Array Bool) (st:St) (i:Nat):Prop :=
 ∃ o v σ',l[i]?=some o∧Dt l st.env o=some true∧TOp E g o (ev E st.env) (get st.σ) v (get σ')∧AAny E N l g Q (A.setIfInBounds i true) (st.env' o.dst v σ')
theorem Vt {Q:St→Prop} {A:Array Bool} {rs:List Nat} (hok:EJ N l=true) (hr:Region.ready .any l.toArray A=rs) (hne:rs≠[]) (h:∀ i∈rs,AGo E N l g Q A st i):AAny E N l g Q A st:=by
 intro M z G w a K k C p S V r;obtain ⟨a1,_⟩:=Cq hok;obtain ⟨y,r0,rfl⟩:∃ i I,rs=i :: I:=by
  cases rs with
  | nil=>exact absurd rfl hne
  | cons i I=>exact ⟨i,I,rfl⟩
 have s:y∈Region.ready .any l.toArray A:=by rw[hr]; exact dY
 have F:∀ i∈Region.ready .any l.toArray A,left (A.setIfInBounds i true) l.length + 1=left A l.length:=fun i f=>by
  obtain ⟨m,o,c,_⟩:=mem_ready.1 f;simp only[eA] at c;have:=Fq A m l.length;rwa [if_pos (dW.1 c).1] at this
 rw[← F y s];refine ⟨fun h0=>(by rw[h0] at s; cases s),fun i f=>?_⟩;have Y:left (A.setIfInBounds y true) l.length=left (A.setIfInBounds i true) l.length:=by
  have m:=F y s;have c:=F i f;omega
 rw[Y];obtain ⟨B,_⟩:=mem_ready.1 f;obtain ⟨o,v,O,t,hw,hq,X⟩:=h i (by rw[← hr]; exact f);unfold wpOpIn;simp only[eA,t];rw[if_pos (FU k hw)];refine hq M z G w a k.wf (fun x _=>k.ev z x) k.objs (fun d b=>⟨C,(p i o d t B b).2⟩) _ _ (fun P w' x a8 hv a3 u=>?_) r;have a5:=k.put' (v:=v) (dst:=o.dst) u rfl a8 a3 hv (fun d b=>by rw[K]; exact (p i o d t B b).1);have a9 : (st.env' o.dst v O).σ=O:=by cases o.dst <;> rfl
 refine X M z P w' _ (by rw[EB,K]) a5 (eV C u.top) (fun j H d D n b=>?_) S (fun R aa T w2 m c J U=>V R aa T w2 m c ?_ U) r
 ·have L:j≠i:=fun e=>by
   subst e;have Z:j < A.size:=by
    rcases ir j A.size with h | h
    ·exact h
    ·simp[eS h] at B
   simp[Z] at n
  rw[getD_set_ne true (Ne.symm L)] at n;refine ⟨(p j H d D n b).1,fun q=>u.fresh (by exact C) ((p j H d D n b).2 q) fun ⟨_,W⟩=>?_⟩;exact L (Cf a1 j i H o d D t b W)
 ·rw[a9] at J;exact (u.weaken fun _ _ hn=>hn.1).trans J
theorem Zt {Q:Exit→St→Prop} {id:Nat} (nq:Nat) (hnq:nq≤l.length) (hok:IP N l nq=true)
  (A0:Array Bool) (hA0:A0=((List.range l.length).map fun j=>decide (j < nq)).toArray)
  (h:∀ g,(∀ i j,get st.σ ⟨g,i,j⟩=none)→QRun E l g st.σ (AAny E N l g (fun s=>Q .normal s) A0) (l.take nq) st):AWp E N (.region id l.toArray true) Q st:=by
 intro M R G w a W hr rd aD;obtain ⟨y,ht,hf,hσ,p,r⟩:=bump hr;have a4:=hok;simp only[IP,ej] at a4;obtain ⟨aC,a2⟩:=Cq a4.1.1.1;obtain ⟨x,env',K,hK⟩:=h G.top hσ;refine wpIn_region_any E.mixed ?_
 -- the draw
 have X:∀ v d,V y w v d→V y { w with drawn:=w.drawn + 1 } v d:=fun v d h=>h.mono (fun _ h=>h) (fun _ _=>rfl) (fun _ _ h=>h);have ab:Inv M E N l G.top st x y { w with drawn:=w.drawn + 1 } (fun j=>(Array.replicate l.length false).getD j false) y { w with drawn:=w.drawn + 1 } a:=by
  have J:∀ j,(Array.replicate l.length false).getD j false=false:=fun j=>by
   by_cases b:j < l.length
   ·simp[b]
   ·simp[eS (show (Array.replicate l.length false).size≤j by simp; omega)]
  have a0:kapp (fun j=>(Array.replicate l.length false).getD j false) 0 x (get st.σ)=get st.σ:=Je 0 x _ J;refine ⟨W,p.defers,⟨p.wf.below.draw,p.wf.old,p.wf.lt,p.wf.nm⟩,fun t d f _=>⟨by rw[← W]; exact (p.env t d f).1,X _ _ (p.env t d f).2⟩,fun j o t v nw C=>?_,?_,⟨by omega,fun j o d _ _ _ q=>hf d q⟩,?_,fun i o _ C=>?_⟩
  ·rw[J] at C; cases C
  ·rw[a0];exact ⟨fun n o hn=>let ⟨v,c,u,z⟩:=p.objs.ob n o hn; ⟨v,c,u.mono X fun _ _=>rfl,z⟩,p.objs.ne⟩
  ·rw[a0]; exact .refl _ _ _ _
  ·have S : (Array.replicate l.length false).getD i false=true:=C;rw[J] at S; cases S
 refine UM R hnq hok K hσ (fun A O w' P ao B e=>?_) l.toArray.size (Array.replicate l.toArray.size false) y _ a (by simp) (by simp only[gb]; exact HA _ _ (ec _)) (fun j c u=>by simp[u]) (by simpa using ab);have T:∀ j,j < nq→A.getD j false=true:=fun j b=>by
  have c:=B j (by omega);rw[show A.getD j false=A.getD j true by simp[show j < A.size by omega],c];simpa using b
 have ad:∀ j,nq≤j→A.getD j false=false:=fun j b=>by
  by_cases ah:j < l.length
  ·have c:=B j ah;rw[show A.getD j false=A.getD j true by simp[show j < A.size by omega],c];simpa using b
  ·simp[eS (show A.size≤j by omega)]
 have H:A=A0:=by
  rw[hA0];refine Array.ext (by simp[ao]) fun j c u=>?_;have z:=B j (by omega);simp[show j < A.size from c] at z;simpa using z
 have aj:l.length - nq=left A0 l.length:=by
  rw[← H];have:∀ m,nq≤m→m≤l.length→left A m=m - nq:=by
   intro m;induction m with
   | zero=>intro c _; simp[left]
   | succ m aq =>
    intro c u;by_cases z:nq=m + 1
    ·have h0:∀ k,k≤nq→left A k=0:=by
      intro k;induction k with
      | zero=>intro _; simp[left]
      | succ k ap =>
       intro hk;rw[Do,ap (by omega),B k (by omega)];simp[show k < nq by omega]
     rw[h0 (m + 1) (by omega)];omega
    ·rw[Do,aq (by omega) (by omega),B m (by omega)];simp[show ¬ m < nq by omega];omega
  exact (this _ hnq (ec _)).symm
 have ak:=K.length;have a1:kapp (fun j=>A.getD j false) 0 x (get st.σ)=get (accN x st.σ):=KH 0 x st.σ fun j _ b=>T j (by rw[ak,eD] at b; omega);have am:Rel M O w' P ⟨env',accN x st.σ⟩:=by
  refine ⟨e.wf,fun t d f=>?_,by rw[← a1]; exact e.objs,e.defers⟩;rw[e.size];have aa:∀ (j:Nat) o,(l.take nq)[j]?=some o→j < nq∧l[j]?=some o:=fun j o h=>by
   rw[eb] at h;split at h
   ·rename_i b; exact ⟨b,h⟩
   ·cases h
  rcases K.env t with ⟨j,o,v,nw,L,D,k3,k4⟩ | ⟨L,D⟩
  ·simp only at f;rw[k4] at f;cases f;obtain ⟨b,Z⟩:=aa j o L;exact ⟨a2 o (ew Z) t D,e.new j o t d nw (T j b) Z D k3⟩
  ·simp only at f;rw[D] at f;refine e.old t d f fun j o U b=>?_;by_cases ai:j < nq
   ·exact L j o (by rw[eb,if_pos ai]; exact b)
   ·rw[ad j (by omega)] at U; cases U
 rw[aj,H];refine hK M R O w' P e.size am e.fresh.1 (fun i o d I ae Y=>⟨a2 o (ew I) d Y,e.fresh.2 i o d ?_ I Y⟩) _ (fun G2 aA _ _ q1 q2 q3 q4=>⟨G2,aA,q1,q2,?_,q4⟩) rd
 ·have ag:=(dW.1 I).1;rw[H];have:i < A0.size:=by rw[hA0]; simpa using ag
  simpa [this] using ae
 ·have an:Step (fun n=>n.g=G.top) G w (get st.σ) y { w with drawn:=w.drawn + 1 } (get st.σ) :=
   ⟨ec _,fun _ _ _=>rfl,r.F,r.F',r.ρ,fun n c u _=>r.ρ' n c u fun h=>h,r.top,r.blk',r.dom,r.base⟩
  have a5:=e.step;rw[a1] at a5;exact ((an.trans a5).trans q3).weaken fun n hn _=>by omega
theorem Ou {Q:Exit→St→Prop} {id:Nat} {ds:List (Option Tmp)} (nq:Nat) (hnq:decide (nq≤l.length)=true) (hok:IP N l nq=true) (hds:l.map (·.dst)=ds) (A0:Array Bool) (hA0:A0=((List.range l.length).map fun j=>decide (j < nq)).toArray)
  (h:∀ g,(∀ i j,get st.σ ⟨g,i,j⟩=none)→∀ (ops:List Oper) (K:St→Prop),ops.map (·.dst)=ds→(∀ s,AAny E N l g (fun s=>Q .normal s) A0 s→K s)→QRun E ops g st.σ K (l.take nq) st):AWp E N (.region id l.toArray true) Q st :=
 Zt nq (by simpa using hnq) hok A0 hA0 fun g hg=>h g hg l _ hds fun _ h=>h
theorem BL {Q:St→Prop} {A:Array Bool} {i:Nat} {o:Oper} {ds:List (Option Tmp)} (ho:l[i]?=some o) (hds:l.map (·.dst)=ds) (hw:Cv ds st.env o.guard=some true) (h:SomeP (MS E ds g o st) fun st'=>AAny E N l g Q (A.setIfInBounds i true) st'):AGo E N l g Q A st i:=by
 obtain ⟨st',b,f⟩:=h.elim;unfold MS at b;rw[hw] at b;have j : Dt l st.env o=some true:=by rw[← Cl hds]; exact hw
 simp only at b;split at b
 ·rename_i t a x c;simp only[ee] at b;obtain ⟨e,d,rfl⟩:=b;exact ⟨o,_,e,ho,j,Gu c d,f⟩
 ·rename_i t m q x c;simp only[ee] at b;obtain ⟨e,d,rfl⟩:=b;exact ⟨o,_,e,ho,j,Hn (.inl c) d,f⟩
 ·rename_i t m q x c;simp only[ee] at b;obtain ⟨e,d,rfl⟩:=b;exact ⟨o,_,e,ho,j,Hn (.inr c) d,f⟩
 ·simp only[ee] at b;obtain ⟨p,y,rfl⟩:=b;refine ⟨o,p.1,p.2++st.σ,ho,j,?_,?_⟩
  ·have:=Hy (E:=E) (g:=g) (o:=o) y;intro D r G w a hw u ho v K n s;refine this D r G w a hw u ho v K n fun k C x z B _ _=>s k C x z B ?_ ?_
   ·rwa [Bj]
   ·rwa [Bj]
  ·have:st.env' o.dst p.1 (p.2++st.σ)=st.put o.dst p.1 p.2:=by cases o.dst <;> rfl
   rw[this];exact f
theorem Qr {Q:St→Prop} {A:Array Bool} {i:Nat} {o:Oper} {ds:List (Option Tmp)} {t el:TypeId} {so x:Operand} {d:Nat} (ho:l[i]?=some o) (hds:l.map (·.dst)=ds) (hw:Cv ds st.env o.guard=some true) (hop:o.op=.call { callee:=.builtin .append,args:=#[so,x],argTypes:=#[t,t] }) (hd:o.dst=some d)
  {n:Nm} {len:Nat} (hs:ev E st.env so=.own n len) {xf:Bool} {rows2:List D} (hx:ev E st.env x=.sl xf rows2) {k:Nat}
  (he:AM E.P t=some el) (hk:szOf E.P el=some k) {bs:Nat} (hbs:AJ E.P el=some bs) {z:Value} (hz:AL E.P el=some z) (hzs:z.cells.size=k) (hk0:0 < k)
  (h:SomeP (get st.σ n) fun ob=>SomeP (Gw el k ob) fun rows=>BO k rows2∧(rows.length + rows2.length≤9223372036854775807∧(rows.length + rows2.length) * bs≤140737488355328) ∧
   AAny E N l g Q (A.setIfInBounds i true) { env:=(d,.own ⟨g,d,0⟩ (rows.length + rows2.length)) :: st.env,σ:=(⟨g,d,0⟩,.arr el k (rows++rows2)) :: del st.σ n }):AGo E N l g Q A st i:=by
 obtain ⟨ob,b,h⟩:=h.elim;obtain ⟨rows,a,r,⟨j,p⟩,f⟩:=h.elim;cases ob with
 | arr v s u =>
  simp only[Gw] at a;split at a
  ·rename_i c;rw[c.1,c.2,Option.some.inj a] at b;have:=HU (E:=E) (g:=g) (e:=ev E st.env) (κ:=get st.σ) hop hd hs b hx he hk hbs hz hzs hk0 r j p;have q:(Kp.del (get st.σ) n).put ⟨g,d,0⟩ (.arr el k (rows++rows2))=get ((⟨g,d,0⟩,.arr el k (rows++rows2)) :: del st.σ n):=by
    funext m
    simp only[Kp.put,Kp.del,get,GX]
   rw[q] at this;refine ⟨o,_,_,ho,by rw[← Cl hds]; exact hw,this,?_⟩;rw[hd];exact f
  ·cases a
 | _=>cases a
theorem CW {Q:St→Prop} {A:Array Bool} (i:Nat) (hok:EJ N l=true) (hr:Region.ready .any l.toArray A=[i]) (h:AGo E N l g Q A st i):AAny E N l g Q A st :=
 Vt hok hr (by simp) fun _ hj=>by rw[eg.1 hj]; exact h
theorem Hb {Q:St→Prop} {A:Array Bool} (i j:Nat) (hok:EJ N l=true) (hr:Region.ready .any l.toArray A=[i,j]) (h:AGo E N l g Q A st i) (h' : AGo E N l g Q A st j):AAny E N l g Q A st :=
 Vt hok hr (by simp) fun _ hk=>by
  rcases eq.1 hk with rfl | hk
  ·exact h
  ·rw[eg.1 hk]; exact h'
end
theorem UN {G:Gh} {w:World} {ad:Addr} {n c:Nat} {rows:List D} (h:V G w (.slice (some ad) n c) (.sl true rows)) (hr:0 < rows.length):c=rows.length:=by
 cases h with
 | esl a=>simp at hr
 | sl X d b e f j i g=>rw[b rfl,d]
theorem Zu {E:Ctx} {g:Nat} {o:Oper} {e:Operand→D} {κ:Kp} {t el:TypeId} {so x:Operand} (hop:o.op=.call { callee:=.builtin .append,args:=#[so,x],argTypes:=#[t,t] }) {d:Nat} (hd:o.dst=some d)
  {rows rows2:List D} (hs:e so=.sl true rows) {k:Nat} {xf:Bool} (hx:e x=.sl xf rows2) (hr:0 < rows.length) (hr2:0 < rows2.length)
  (he:AM E.P t=some el) (hk:szOf E.P el=some k) {bs:Nat} (hbs:AJ E.P el=some bs) {z:Value} (hz:AL E.P el=some z) (hzs:z.cells.size=k) (hk0:0 < k) (hok:BO k rows) (hok2:BO k rows2)
  (h63:rows.length + rows2.length≤9223372036854775807) (hb:(rows.length + rows2.length) * bs≤140737488355328) :
  QOp E g o e κ (.own ⟨g,d,0⟩ (rows.length + rows2.length)) [(⟨g,d,0⟩,.arr el k (rows++rows2))]:=by
 intro w0 hA G w a u y ho hf K Q' T;obtain ⟨hg,C⟩:=hf d hd;have a9:=C 0;have s:=y so (by simp[hop,Op.operands,Call.operands]);have J:=y x (by simp[hop,Op.operands,Call.operands]);rw[hs] at s;rw[hx] at J;obtain ⟨i,l⟩:∃ i,E.P.info? el=some i:=by
  unfold szOf at hk;cases l:E.P.info? el with
  | none=>rw[l] at hk; cases hk
  | some i=>exact ⟨i,rfl⟩
 have a6:i.size=k:=by simpa [szOf,l] using hk
 have a5:i.bytes=bs:=by simpa [AJ,l] using hbs
 have a7:i.zero=some z:=by simpa [AL,l] using hz
 have ht:=BT he;rcases Oe s hok hk0 with ⟨_,rfl⟩ | ⟨L,c,q,I,m,V,aj,a2⟩
 ·simp at hr
 rcases Oe J hok2 hk0 with ⟨_,rfl⟩ | ⟨M,N,p,ac,n,W,ak,a3⟩
 ·simp at hr2
 have U:c=rows.length:=UN (I ▸ s) hr;subst U;subst a6;have r:=run_append_grow (P:=E.P) w t o.type el i z ht l a7 L rows.length rows.length q m V M rows2.length N p n W (by omega) (by omega) (growslice_fits (by omega) (by rw[a5]; exact hb));generalize A:grownCap w (rows.length + rows2.length) rows.length el=j at r;have X:rows.length + rows2.length≤j:=by rw[← A]; exact grownCap_ge _ _ _ _
 have Y:j≤maxLen:=by rw[← A]; exact grownCap_le_maxLen _ _ _ _ (by simp only[maxLen]; omega)
 generalize B:(q.toArray++p.toArray++Builtin.zeroCells z.cells (j - (rows.length + rows2.length)))=f at r;have Z:f.size=j * i.size:=by
  rw[← B];simp only[ic,gb,m,n,size_zeroCells,hzs];rw[← fG,← fG]
  congr 1
  omega
 have ag:f.toList.take ((rows.length + rows2.length) * i.size)=q++p:=by
  rw[← B];simp only[gX];rw[List.take_append_of_le_length (by simp[m,n,fG])];exact fO (by simp[m,n,fG])
 have aa:(w.drew.alloc (.cells f el)).heap[w.heap.size]?=some (.cells f el (0,0)):=Dv w.drew _;have ae:(w.drew.alloc (.cells f el)).heap.size=w.heap.size + 1:=World.size_alloc w.drew _;have H:Gr w (w.drew.alloc (.cells f el)) none:=Gr.of ⟨rfl,rfl,rfl,by rw[ae]; omega,fun k hk _=>Dw w.drew _ k hk⟩;obtain ⟨O,Q,R⟩:=Gf u ho (C 0) hg (v:=.slice (some ⟨w.heap.size,0,none⟩) (rows.length + rows2.length) j) (ob:=.arr el i.size (rows++rows2)) H (fun b hb=>by simp[blk] at hb; omega)
  ⟨q++p,⟨by rw[dQ,dQ,m,n,fG],.inr ⟨w.heap.size,j,f,by rw[dQ],u.below.size,aa,by rw[dQ]; exact X,Y,Z,by rw[dQ]; exact ag⟩⟩,
   (Flat.append a2 m a3).mono fun _ _ h=>h.upd a9 fun b S=>H.block b (u.lt b S) (by simp)⟩
 have a0:(execOp a.eval o).run E.P w=.ok (.value (.slice (some ⟨w.heap.size,0,none⟩) (rows.length + rows2.length) j)) (w.drew.alloc (.cells f el)):=by
  simp[execOp,hop,resolve,invoke,builtin,I,ac,r]
 refine FQ a0 ?_;have F:get [((⟨g,d,0⟩:Nm),Ob.arr el i.size (rows++rows2))]=single ⟨g,d,0⟩ (.arr el i.size (rows++rows2)):=(CI _ _).symm ▸ rfl;refine T _ _ _ O (.own (by simp[Gh.upd])) ?_ ?_
 ·rw[F]; exact Q
 ·rw[F]; exact R.weaken fun _ _ hm=>by subst hm; exact ⟨rfl,hd⟩
theorem HE {E:Ctx} {N:Nat} {st:St} {ops:List Oper} {ds:List (Option Tmp)} {g:Nat} {K:St→Prop} {o:Oper} {r:List Oper} {t el:TypeId} {so x:Operand} {d:Nat} (hds:ops.map (·.dst)=ds) (hw:Cv ds st.env o.guard=some true) (hop:o.op=.call { callee:=.builtin .append,args:=#[so,x],argTypes:=#[t,t] }) (hd:o.dst=some d)
  {rows rows2:List D} (hs:ev E st.env so=.sl true rows) {xf:Bool} (hx:ev E st.env x=.sl xf rows2) {k:Nat}
  (he:AM E.P t=some el) (hk:szOf E.P el=some k) {bs:Nat} (hbs:AJ E.P el=some bs) {z:Value} (hz:AL E.P el=some z) (hzs:z.cells.size=k) (hk0:0 < k)
  (h:(0 < rows.length∧0 < rows2.length)∧(BO k rows∧BO k rows2)∧(rows.length + rows2.length≤9223372036854775807∧(rows.length + rows2.length) * bs≤140737488355328) ∧
   AOps E N ops g K r { env:=(d,.own ⟨g,d,0⟩ (rows.length + rows2.length)) :: st.env,σ:=(⟨g,d,0⟩,.arr el k (rows++rows2)) :: st.σ }):AOps E N ops g K (o :: r) st:=by
 obtain ⟨⟨a,b⟩,⟨c,e⟩,⟨f,i⟩,j⟩:=h;refine SK (by rw[← Cl hds]; exact hw) (Zu hop hd hs hx a b he hk hbs hz hzs hk0 c e f i) ?_;simpa [St.put,hd] using j
end Go.Ab
namespace Go.Proofs.T
open Go Go.Ab Go.RowKit
mutual
def AO:Ty→List Str
 | .mk n a _=>n :: BS a
def BS:List Ty→List Str
 | []=>[]
 | t :: r=>AO t++BS r
end
theorem DW (t:Ty):AO t=t.name :: BS t.args:=by cases t; rfl
theorem GG:∀ a b:List Ty,BS (a++b)=BS a++BS b
 | [],b=>rfl
 | x :: a,b=>by simp[BS,GG a b]
theorem HM (c:List Ty) (i:Nat) (h:i < c.length):BS (c.take (i + 1))=BS (c.take i)++AO c[i]:=by
 rw[ep,dO h,GG];simp[BS]
theorem Mj (c:List Ty) (i:Nat):(BS (c.take i)).length≤(BS c).length:=by
 have:=congrArg (fun l=>(BS l).length) (fC i c);simp only[GG,dQ] at this;omega
theorem Mk (c:List Ty) (i:Nat) (h:i < c.length):(AO c[i]).length≤(BS c).length:=by
 have a:=HM c i h;have b:=Mj c (i + 1);rw[a,dQ] at b;omega
theorem NK (t:Ty):0 < (AO t).length:=by rw[DW]; simp
theorem Vu:∀ l:List Str,BO 1 (l.map encS):=fun l=>Du 1 encS l fun _=>⟨rfl,rfl⟩
set_option maxRecDepth 100000 in
theorem Tn:∀ t:Ty,okTy t→(AO t).length≤1000000→∀ g d,ACalls E 117 [AC t] [] g d (slS (AO t)) []:=by
 intro t;induction t using Ty.ind with
 | h t ih =>
 intro U A g d;have B:=(DJ t).1 U;have w:=DW t;have Y:(BS t.args).length + 1≤1000000:=by rw[w] at A; simpa using A
 refine Ax 24 Tryz.call117 Tryz.func117 ?_;simp only[go_sem];refine Aa fun _ H=>Ac 2 fun e _=>?_;simp only[go_sem];refine H (Aa fun _ K=>Ac 4 fun _ _=>?_);simp only[go_sem];refine K (Aa fun _ y=>Aa fun _ L=>Ac 1 fun _ _=>?_);simp only[go_sem];refine L (Ai ?_);refine Ay (fun m s=>∃ k,k≤t.args.length∧m=t.args.length - k∧((k=0∧Le { env:=[(1,.ptr ⟨e,1,0⟩ 0),(4,dN 0),(3,.sl true [encS t.name])],σ:=[(⟨e,1,0⟩,.box 25 (tyC t))] } s) ∨
   ∃ a i,a≠e∧Le { env:=[(1,.ptr ⟨e,1,0⟩ 0),(4,dN k),(3,.own ⟨a,i,0⟩ (1 + (BS (t.args.take k)).length))],σ:=[(⟨e,1,0⟩,.box 25 (tyC t)),(⟨a,i,0⟩,.arr 9 1 (encS t.name :: (BS (t.args.take k)).map encS))] } s)) t.args.length ?_ ?_
 ·refine ⟨0,dX _,rfl,.inl ⟨rfl,Ao ?_⟩⟩;simp only[go_sem,tyC];all_goals first|trivial|omega
 ·rintro m s ⟨k,X,rfl,⟨rfl,o⟩ | ⟨a,i,n,o⟩⟩
  ·refine Az o ?_;clear o;refine Aa fun _ M=>Aa fun _ z=>?_;by_cases b:0 < t.args.length
   ·have v : (((0:Nat):Int) < (t.args.length:Int))=True:=eq_true (by omega);have Q:=Mk t.args 0 b;have V:=NK t.args[0];refine Ac 5 fun p r=>?_;simp only[go_sem,v,tyC];refine z (Al (Ae (M (Aa fun _ N=>Ai (Am fun j u W C c q=>Af 6 c ?_)))));simp only[go_sem,getM b];have f:j≠e:=Ar u 1 0 (by simp[go_sem]);refine AA c rfl rfl rfl (ih _ (dP b) (B.2.2 _ (dP b)) (by omega) _ _) (CoL.refl _) ?_;refine HE c rfl rfl rfl rfl rfl es44 sz9 by9 ze9 rfl (by decide) ?_;simp only[go_sem,Vu];refine ⟨V,⟨by omega,by omega⟩,?_⟩;refine Ad 1 c ?_;simp only[go_sem]
    refine q (N (Ac 3 fun D S=>?_));simp only[go_sem,tyC];try simp (disch:=omega) only[Au]
    refine ⟨_,?_,1,b,rfl,.inr ⟨j,22,f,Ao ?_⟩⟩
    ·omega
    have l:=HM t.args 0 b;rw[gG] at l;have G:BS (t.args.take 1)=AO t.args[0]:=l;simp only[go_sem,G,f,f.symm];all_goals first|trivial|omega
   ·have h0:t.args=[]:=ex (by omega);have v : (((0:Nat):Int) < (t.args.length:Int))=False:=eq_false (by omega);refine Ac 5 fun p r=>?_;simp only[go_sem,v,tyC];refine z (Aj (Aq (y (Aa fun _ O=>Ac 2 fun F T=>?_))));simp only[go_sem];refine O (Ah (Ag ?_));simp only[go_sem];exact by rw[w,h0]; exact Co.inexact _ _
  ·refine Az o ?_;clear o;refine Aa fun _ P=>Aa fun _ x=>?_;by_cases b:k < t.args.length
   ·have Q:=Mk t.args k b;have R:=Mj t.args (k + 1);have l:=HM t.args k b;rw[l,dQ] at R;refine Ac 5 fun p r=>?_;simp only[go_sem,b,tyC,n];refine x (Al (Ae (P (Aa fun _ I=>Ai (Am fun j u W C c q=>Af 6 c ?_)))));simp only[go_sem,getM b,n];refine AA c rfl rfl rfl (ih _ (dP b) (B.2.2 _ (dP b)) (by omega) _ _) (CoL.refl _) ?_;refine AG c rfl rfl rfl rfl rfl es44 sz9 by9 ze9 rfl (by decide) ?_;simp only[go_sem,Vu,n.symm];first | refine ⟨⟨by omega,by omega⟩,?_⟩ | skip
    have f:j≠e:=Ar u 1 0 (by simp[go_sem]);refine Ad 1 c ?_;simp only[go_sem];refine q (I (Ac 3 fun D S=>?_));simp only[go_sem,tyC];try simp (disch:=omega) only[Au]
    refine ⟨_,?_,k + 1,b,rfl,.inr ⟨j,22,f,Ao ?_⟩⟩
    ·omega
    simp only[go_sem,l,fU,f,f.symm];all_goals first|trivial|omega
   ·have:k=t.args.length:=by omega
    subst this;refine Ac 5 fun p r=>?_;simp only[go_sem,b,tyC,n];refine x (Aj (Aq (y (Aa fun _ J=>Ac 2 fun F T=>?_))));simp only[go_sem];refine J (Ah ?_);refine AY ⟨a,i,0⟩ ?_;simp only[go_sem,n.symm];refine Ag ?_;simp only[go_sem];exact Co.of_eq (by rw[w]; rfl)
noncomputable def CJ (t:Ty):Bool:=(AO t).all nmOk
theorem Zv:∀ t:Ty,okTy t→∀ s∈AO t,s.size≤9223372036854775807:=by
 intro t;induction t using Ty.ind with
 | h t ih =>
 intro e s a;obtain ⟨c,i,d⟩:=(DJ t).1 e;rw[DW] at a;rcases eq.1 a with rfl | a
 ·exact c
 ·have:∀ l:List Ty,(∀ x∈l,x∈t.args)→s∈BS l→s.size≤9223372036854775807:=by
   intro l;induction l with
   | nil=>intro _ h; cases h
   | cons x r g =>
    intro b h;rcases eu.1 h with h | h
    ·exact ih x (b x dY) (d x (b x dY)) s h
    ·exact g (fun y f=>b y (ea _ f)) h
  exact this t.args (fun _ h=>h) a
set_option maxRecDepth 100000 in
theorem BE (t:Ty) (hok:okTy t) (hlen:(AO t).length≤1000000) (g d:Nat):ACalls E 71 [AC t] [] g d (dB (CJ t)) []:=by
 have n:=Zv t hok;refine Ax 19 Tryz.call71 Tryz.func71 ?_;simp only[go_sem];refine Aa fun _ p=>Ac 2 fun _ _=>?_;simp only[go_sem];refine p (Aa fun _ r=>Am fun _ _ _ _ f z=>Af 1 f ?_);simp only[go_sem];refine Ak f (Tn t hok hlen _ _) ?_;refine Ad 1 f ?_;simp only[go_sem];refine z (r (Aa fun _ u=>Aa fun _ v=>Ac 1 fun _ _=>?_));simp only[go_sem];refine v (Ai ?_);refine Ay (fun m s=>∃ k,k≤(AO t).length∧m=(AO t).length - k∧((AO t).take k).all nmOk=true∧Le { env:=[(3,slS (AO t)),(4,dN k)],σ:=[] } s) (AO t).length ?_ ?_
 ·refine ⟨0,dX _,rfl,rfl,Ao ?_⟩;simp only[go_sem];all_goals first|trivial|omega
 ·rintro m s ⟨k,D,rfl,e,l⟩;refine Az l ?_;clear l;refine Aa fun _ w=>Aa fun _ h=>?_;by_cases a:k < (AO t).length
  ·have C:((AO t).take (k + 1)).all nmOk=nmOk (AO t)[k]:=by
    rw[ep,dO a,gu,e];simp
   refine Ac 4 fun o B=>?_;simp only[go_sem,a];refine h (Al (Ae (w (Aa fun _ x=>Ai (Aa fun _ i=>Am fun _ _ _ _ b j=>Af 4 b ?_)))));simp only[go_sem,getM a];cases c:nmOk (AO t)[k] with
   | false =>
    have A:CJ t=false:=by
     unfold CJ;rw[fH];exact ⟨_,dP a,by rw[c]; decide⟩
    refine Ak b (CG (AO t)[k] (n _ (dP a)) _ _) ?_;refine Ad 1 b ?_;simp only[go_sem,c];refine j (i (Al (Aa fun _ y=>Ac 1 fun _ _=>?_)));simp only[go_sem];refine y (Ah (Ag ?_));simp only[go_sem];exact Co.of_eq (by rw[A])
   | true =>
    refine Ak b (CG (AO t)[k] (n _ (dP a)) _ _) ?_;refine Ad 1 b ?_;simp only[go_sem,c];refine j (i (Aj (Ae (x (Ac 3 fun _ _=>?_)))));simp only[go_sem];try simp (disch:=omega) only[Au]
    refine ⟨_,?_,k + 1,a,rfl,by rw[C,c],Ao ?_⟩
    ·omega
    simp only[go_sem];omega
  ·have:k=(AO t).length:=by omega
   subst this;rw[eo] at e;refine Ac 4 fun o B=>?_;simp only[go_sem,a];refine h (Aj (Aq (u (Aa fun _ q=>Ac 1 fun _ _=>?_))));simp only[go_sem];refine q (Ah (Ag ?_));simp only[go_sem];exact Co.of_eq (by unfold CJ; rw[e])
end Go.Proofs.T
