/- A part of the proof: ZAX. -/
import Derived.Test.YtnkpcgpmgkaakaaGreatZAW
namespace Go.Proofs.T
open Go Go.Ab Go.RowKit
theorem MG (n:Nat) (hn:n≤1000000) (g d:Nat):ACalls E 140 [.val (.slice none 0 0),dN n] [] g d (.own ⟨g,d,1⟩ 0) [(⟨g,d,1⟩,.arr 25 3 [])]:=by
 refine Wd (l:=[.slice none 0 0,.int .i64 n]) Tryz.call140 fun _ _ w _=>?_;by_cases h0:n=0
 ·subst h0;refine (Any8.slices_Grow_room Tryz.layGrowTy none 0 0 0 w (by omega) (by omega) (by omega) (by omega)).mono ?_;rintro e s ⟨rfl,rfl⟩;exact ⟨_,rfl,Gr.of ⟨rfl,rfl,rfl,ec _,fun _ _ _=>rfl⟩,.inl rfl⟩
 ·obtain ⟨a,b⟩:∃ a,Tryz.prog.info? 25=some a:=by
   cases h:Tryz.prog.info? 25 with
   | none=>have:=sz25; simp[szOf,h] at this
   | some i=>exact ⟨i,rfl⟩
  have u:a.size=3:=by have:=sz25; simpa [szOf,b] using this
  have o:a.bytes=48:=by have:=by25; simpa [AJ,b] using this
  have j:=ze25;simp only[AL,b,fT] at j;refine (Any8.slices_Grow_grow Tryz.layGrowTy a _ b j (by omega) none 0 0 n [] w (by omega) (by omega) (by rw[o]; omega) (by omega) (by simp) (fun _=>rfl) (fun _ h=>by cases h)).mono ?_;rintro e s ⟨rfl,rfl⟩;have q:∀ (A:Array Value) (T:TypeId),(w.drew.alloc (.cells A T)).heap[w.heap.size]?=some (.cells A T (0,0)):=fun A T=>by
   show (w.heap.push _)[w.heap.size]?=_;exact Array.getElem?_push_size
  have r:Tryz.layGrowTy_ren.t 25=25:=by kernel_rfl
  rw[r];have p:∀ (A:Array Value) (T:TypeId),Gr w (w.drew.alloc (.cells A T)) none:=fun A T=>by
   refine ⟨⟨rfl,rfl,rfl,?_,fun k f _=>?_⟩,fu _⟩
   ·show w.heap.size≤(w.heap.push _).size;rw[Array.size_push];omega
   ·show (w.heap.push _)[k]?=_;rw[Array.getElem?_push_lt f,fD f]
  refine ⟨_,rfl,p _ _,.inr ⟨_,_,rfl,q _ _,grownCap_le_maxLen _ _ _ _ (by unfold maxLen; omega),?_⟩⟩
  ·have m:(Value.agg #[.string ByteArray.empty,.slice none 0 0,.int .i64 0]).cells.size=3:=rfl;have:=grownCap_ge w n 0 25;have e0:(([]:List Value).toArray).size=0:=rfl;rw[ic,ic,size_zeroCells,size_zeroCells,m,e0,eN n]
   revert this
   generalize grownCap w n 0 25=c;intro this;omega
def By (ls:List (List Ty)) (k:Nat):List Ty:=(ls.take k).flatten
theorem FP (ls:List (List Ty)) (k:Nat) (h:k < ls.length):By ls (k + 1)=By ls k++ls[k]:=by
 unfold By;rw[ep,dO h,List.flatten_append];simp only[Option.toList,List.flatten_cons,List.flatten_nil,fe]
theorem QG (x:Bool) (ls:List (List Ty)) (hl:ls.length≤1000) (hls:∀ k,k≤ls.length→(By ls k).length≤1000000) (g d:Nat) :
  ACalls E 103 [.sl x (ls.map slTy)] [] g d (slTy (By ls ls.length)) []:=by
 refine Ax 36 Tryz.call103 Tryz.func103 ?_;simp only[go_sem];refine Aa fun _ r=>Ac 1 fun _ _=>?_;simp only[go_sem];refine r (Aa fun _ D=>Ac 1 fun _ _=>?_);simp only[go_sem];refine D (Aa fun _ H=>Aa fun _ I=>Ac 3 fun _ _=>?_);simp only[go_sem];refine I (Ai ?_);refine Ay (fun m s=>∃ k,k≤ls.length∧m=ls.length - k ∧
   Le { env:=[(0,.sl x (ls.map slTy)),(3,dN (By ls k).length),(9,.sl x (ls.map slTy)),(10,dN ls.length),(11,dN k)],σ:=[] } s) ls.length ?_ ?_
 ·refine ⟨0,dX _,rfl,Ao ?_⟩;simp only[go_sem,By];trivial
 ·rintro m s ⟨k,S,rfl,b⟩;refine Az b ?_;clear b;by_cases h:k < ls.length
  ·have c:=hls (k + 1) h;have l : (By ls (k + 1)).length=(By ls k).length + ls[k].length:=by rw[FP _ _ h,dQ]
   refine Aa fun _ J=>Ac 1 fun p R=>?_;simp only[go_sem,h];refine J (Aa fun _ K=>Al (Ae (K (Aa fun _ L=>Ai (Aa fun _ M=>Ac 3 fun _ _=>?_)))));simp only[go_sem,getM h];refine M (Aa fun _ N=>?_);have h0:¬ (((By ls k).length:Int) + ls[k].length < 0):=by omega
   refine Ac 5 fun _ _=>?_;simp only[go_sem];try simp (disch:=omega) only[Au]
   refine N (Aa fun _ t=>Ac 2 fun _ _=>?_);simp only[go_sem,h0];refine t (Aj (Ae (L (Ac 2 fun _ _=>?_))));simp only[go_sem];try simp (disch:=omega) only[Au]
   refine ⟨_,?_,k + 1,h,rfl,Ao ?_⟩
   ·omega
   rw[l];simp only[go_sem];omega
  ·have:k=ls.length:=by omega
   subst this;have c:=hls _ (ec _);refine Aa fun _ u=>Ac 1 fun p R=>?_;simp only[go_sem,h];refine u (Aa fun _ _=>Aj (Aq (H (Aa fun _ v=>Am fun q _ _ _ f P=>Af 1 f ?_))));simp only[go_sem];refine Ak f (MG _ c _ _) ?_;refine Ad 1 f ?_;simp only[go_sem];refine P (v (Aa fun _ w=>Aa fun _ y=>Ac 3 fun _ _=>?_));simp only[go_sem];refine y (Ai ?_);refine Ay (fun m s=>∃ k a i j,k≤ls.length∧m=ls.length - k ∧
     Le { env:=[(6,.own ⟨a,i,j⟩ (By ls k).length),(25,.sl x (ls.map slTy)),(26,dN ls.length),(27,dN k)],σ:=[(⟨a,i,j⟩,.arr 25 3 ((By ls k).map AC))] } s) ls.length ?_ ?_
   ·refine ⟨0,q,24,1,dX _,rfl,Ao ?_⟩;simp only[go_sem,By];trivial
   ·rintro m s ⟨k,a,i,j,S,rfl,b⟩;refine Az b ?_;clear b;by_cases h:k < ls.length
    ·have c:=hls (k + 1) h;have l : (By ls (k + 1)).length=(By ls k).length + ls[k].length:=by rw[FP _ _ h,dQ]
     refine Aa fun _ z=>Ac 1 fun n Q=>?_;simp only[go_sem,h];refine z (Aa fun _ A=>Al (Ae (A (Aa fun _ B=>Ai (Aa fun _ C=>Ac 3 fun _ _=>?_)))));simp only[go_sem,getM h];refine C (Am fun o _ _ _ e O=>Af 2 e ?_);simp only[go_sem];refine AG e rfl rfl rfl rfl rfl es23 sz25 by25 ze25 rfl (by decide) ?_;simp only[go_sem,DM];first | refine ⟨⟨by omega,by omega⟩,?_⟩ | skip
     refine Ad 1 e ?_;simp only[go_sem];refine O (B (Ac 2 fun _ _=>?_));simp only[go_sem];try simp (disch:=omega) only[Au]
     refine ⟨_,?_,k + 1,o,33,0,h,rfl,Ao ?_⟩
     ·omega
     rw[FP _ _ h];simp only[go_sem];omega
    ·have:k=ls.length:=by omega
     subst this;refine Aa fun _ F=>Ac 1 fun n Q=>?_;simp only[go_sem,h];refine F (Aa fun _ _=>Aj (Aq (w (Aa fun _ G=>Ac 2 fun _ _=>?_))));simp only[go_sem];refine G (Ah ?_);refine AY ⟨a,i,j⟩ ?_;simp only[go_sem];refine Ag ?_;simp only[go_sem];exact Co.refl _
theorem QH (x:Bool) (ls:List (List Ty)) (hl:ls.length≤1000) (hls:∀ k,k≤ls.length→(By ls k).length≤1000000) (g d:Nat) :
  ACalls E 103 [.sl x (ls.map slTy)] [] g d (.own ⟨g,d,1⟩ (By ls ls.length).length) [(⟨g,d,1⟩,.arr 25 3 ((By ls ls.length).map AC))]:=by
 refine Ax 36 Tryz.call103 Tryz.func103 ?_;simp only[go_sem];refine Aa fun _ r=>Ac 1 fun _ _=>?_;simp only[go_sem];refine r (Aa fun _ D=>Ac 1 fun _ _=>?_);simp only[go_sem];refine D (Aa fun _ H=>Aa fun _ I=>Ac 3 fun _ _=>?_);simp only[go_sem];refine I (Ai ?_);refine Ay (fun m s=>∃ k,k≤ls.length∧m=ls.length - k ∧
   Le { env:=[(0,.sl x (ls.map slTy)),(3,dN (By ls k).length),(9,.sl x (ls.map slTy)),(10,dN ls.length),(11,dN k)],σ:=[] } s) ls.length ?_ ?_
 ·refine ⟨0,dX _,rfl,Ao ?_⟩;simp only[go_sem,By];trivial
 ·rintro m s ⟨k,S,rfl,b⟩;refine Az b ?_;clear b;by_cases h:k < ls.length
  ·have c:=hls (k + 1) h;have l : (By ls (k + 1)).length=(By ls k).length + ls[k].length:=by rw[FP _ _ h,dQ]
   refine Aa fun _ J=>Ac 1 fun p R=>?_;simp only[go_sem,h];refine J (Aa fun _ K=>Al (Ae (K (Aa fun _ L=>Ai (Aa fun _ M=>Ac 3 fun _ _=>?_)))));simp only[go_sem,getM h];refine M (Aa fun _ N=>?_);have h0:¬ (((By ls k).length:Int) + ls[k].length < 0):=by omega
   refine Ac 5 fun _ _=>?_;simp only[go_sem];try simp (disch:=omega) only[Au]
   refine N (Aa fun _ t=>Ac 2 fun _ _=>?_);simp only[go_sem,h0];refine t (Aj (Ae (L (Ac 2 fun _ _=>?_))));simp only[go_sem];try simp (disch:=omega) only[Au]
   refine ⟨_,?_,k + 1,h,rfl,Ao ?_⟩
   ·omega
   rw[l];simp only[go_sem];omega
  ·have:k=ls.length:=by omega
   subst this;have c:=hls _ (ec _);refine Aa fun _ u=>Ac 1 fun p R=>?_;simp only[go_sem,h];refine u (Aa fun _ _=>Aj (Aq (H (Aa fun _ v=>Am fun q _ _ _ f P=>Af 1 f ?_))));simp only[go_sem];refine Ak f (MG _ c _ _) ?_;refine Ad 1 f ?_;simp only[go_sem];refine P (v (Aa fun _ w=>Aa fun _ y=>Ac 3 fun _ _=>?_));simp only[go_sem];refine y (Ai ?_);refine Ay (fun m s=>∃ k a i j,k≤ls.length∧m=ls.length - k ∧
     Le { env:=[(6,.own ⟨a,i,j⟩ (By ls k).length),(25,.sl x (ls.map slTy)),(26,dN ls.length),(27,dN k)],σ:=[(⟨a,i,j⟩,.arr 25 3 ((By ls k).map AC))] } s) ls.length ?_ ?_
   ·refine ⟨0,q,24,1,dX _,rfl,Ao ?_⟩;simp only[go_sem,By];trivial
   ·rintro m s ⟨k,a,i,j,S,rfl,b⟩;refine Az b ?_;clear b;by_cases h:k < ls.length
    ·have c:=hls (k + 1) h;have l : (By ls (k + 1)).length=(By ls k).length + ls[k].length:=by rw[FP _ _ h,dQ]
     refine Aa fun _ z=>Ac 1 fun n Q=>?_;simp only[go_sem,h];refine z (Aa fun _ A=>Al (Ae (A (Aa fun _ B=>Ai (Aa fun _ C=>Ac 3 fun _ _=>?_)))));simp only[go_sem,getM h];refine C (Am fun o _ _ _ e O=>Af 2 e ?_);simp only[go_sem];refine AG e rfl rfl rfl rfl rfl es23 sz25 by25 ze25 rfl (by decide) ?_;simp only[go_sem,DM];first | refine ⟨⟨by omega,by omega⟩,?_⟩ | skip
     refine Ad 1 e ?_;simp only[go_sem];refine O (B (Ac 2 fun _ _=>?_));simp only[go_sem];try simp (disch:=omega) only[Au]
     refine ⟨_,?_,k + 1,o,33,0,h,rfl,Ao ?_⟩
     ·omega
     rw[FP _ _ h];simp only[go_sem];omega
    ·have:k=ls.length:=by omega
     subst this;refine Aa fun _ F=>Ac 1 fun n Q=>?_;simp only[go_sem,h];refine F (Aa fun _ _=>Aj (Aq (w (Aa fun _ G=>Ac 2 fun _ _=>?_))));simp only[go_sem];refine G (Ah ?_);refine DK [⟨a,i,j⟩] rfl ?_;simp only[go_sem];exact Co.refl _
theorem LF (x y:List Ty) (h:x.length + y.length≤1000000) (g d:Nat):ACalls E 103 [.sl true [slTy x,slTy y]] [] g d (slTy (x++y)) []:=by
 have c:=QG true [x,y] (by simp) (fun k b=>by
  have:By [x,y] k=[]∨By [x,y] k=x∨By [x,y] k=x++y:=by
   match k,b with
   | 0,_=>left; rfl
   | 1,_=>right; left; simp[By]
   | 2,_=>right; right; simp[By]
   | k + 3,b=>simp at b
  rcases this with a | a | a
  ·rw[a]; simp
  ·rw[a]; omega
  ·rw[a,dQ]; exact h) g d
 have e:By [x,y] [x,y].length=x++y:=by simp[By]
 rw[e] at c;exact c
theorem QI (x y:List Ty) (h:x.length + y.length≤1000000) (g d:Nat):ACalls E 103 [.sl true [slTy x,slTy y]] [] g d (.own ⟨g,d,1⟩ (x++y).length) [(⟨g,d,1⟩,.arr 25 3 ((x++y).map AC))]:=by
 have c:=QH true [x,y] (by simp) (fun k b=>by
  have:By [x,y] k=[]∨By [x,y] k=x∨By [x,y] k=x++y:=by
   match k,b with
   | 0,_=>left; rfl
   | 1,_=>right; left; simp[By]
   | 2,_=>right; right; simp[By]
   | k + 3,b=>simp at b
  rcases this with a | a | a
  ·rw[a]; simp
  ·rw[a]; omega
  ·rw[a,dQ]; exact h) g d
 have e:By [x,y] [x,y].length=x++y:=by simp[By]
 rw[e] at c;exact c
set_option maxRecDepth 100000 in
theorem LG (l:List Formal) (hl:l.length≤1000000) (g d:Nat):ACalls E 104 [slFm l] [] g d (slTy (l.map (·.bound))) []:=by
 refine Ax 19 Tryz.call104 Tryz.func104 ?_;simp only[go_sem];refine Aa fun _ p=>Ac 1 fun _ _=>?_;simp only[go_sem];refine p (Aa fun _ r=>Ac 1 fun _ _=>?_);simp only[go_sem];refine r (Aa fun _ t=>Aa fun _ u=>Ac 3 fun _ _=>?_);simp only[go_sem];refine u (Ai ?_);refine Bh 3 25 3 rfl fun o _=>?_;refine Ay (fun m s=>∃ k a i,k≤l.length∧m=l.length - k ∧
   Le { env:=[(6,slFm l),(7,dN l.length),(8,dN k),(3,.own ⟨a,i,0⟩ k)],σ:=[(⟨a,i,0⟩,.arr 25 3 (((l.take k).map (·.bound)).map AC))] } s) l.length ?_ ?_
 ·refine ⟨0,o,0,dX _,rfl,Ao ?_⟩;simp only[go_sem];trivial
 ·rintro m s ⟨k,a,i,F,rfl,e⟩;refine Az e ?_;clear e;by_cases b:k < l.length
  ·refine Aa fun _ v=>Ac 1 fun h C=>?_;simp only[go_sem,b];refine v (Aa fun _ w=>Al (Ae (w (Aa fun _ y=>Ai (Aa fun _ z=>Ac 4 fun j D=>?_)))));simp only[go_sem,getM b];refine z ?_;have f:j≠a:=Ar D i 0 (by simp[go_sem]);refine Am fun n _ _ _ c B=>Af 4 c ?_;simp only[go_sem,f.symm];refine AG c rfl rfl rfl rfl rfl es23 sz25 by25 ze25 rfl (by decide) ?_;simp only[go_sem,eG (ga b),f];first | refine ⟨⟨by omega,by omega⟩,?_⟩ | skip
   refine Ad 1 c ?_;simp only[go_sem];refine B (y (Ac 2 fun _ _=>?_));simp only[go_sem];try simp (disch:=omega) only[Au]
   refine ⟨_,?_,k + 1,n,16,b,rfl,Ao ?_⟩
   ·omega
   simp only[go_sem,PD (fun x:Formal=>x.bound) AC b];all_goals first|trivial|omega
  ·refine Aa fun _ A=>Ac 1 fun h C=>?_;simp only[go_sem,b];refine A (Aa fun _ _=>Aj (Aq (t (Aa fun _ q=>Ac 2 fun _ _=>?_))));simp only[go_sem];refine q (Ah ?_);have:k=l.length:=by omega
   subst this;refine AY ⟨a,i,0⟩ ?_;simp only[go_sem];refine Ag ?_;simp only[go_sem];exact Co.of_eq (by simp[])
set_option maxRecDepth 100000 in
theorem MH (l:List Param) (hl:l.length≤1000000) (g d:Nat):ACalls E 105 [slPa l] [] g d (slTy (l.map (·.type))) []:=by
 refine Ax 19 Tryz.call105 Tryz.func105 ?_;simp only[go_sem];refine Aa fun _ p=>Ac 1 fun _ _=>?_;simp only[go_sem];refine p (Aa fun _ r=>Ac 1 fun _ _=>?_);simp only[go_sem];refine r (Aa fun _ t=>Aa fun _ u=>Ac 3 fun _ _=>?_);simp only[go_sem];refine u (Ai ?_);refine Bh 3 25 3 rfl fun o _=>?_;refine Ay (fun m s=>∃ k a i,k≤l.length∧m=l.length - k ∧
   Le { env:=[(6,slPa l),(7,dN l.length),(8,dN k),(3,.own ⟨a,i,0⟩ k)],σ:=[(⟨a,i,0⟩,.arr 25 3 (((l.take k).map (·.type)).map AC))] } s) l.length ?_ ?_
 ·refine ⟨0,o,0,dX _,rfl,Ao ?_⟩;simp only[go_sem];trivial
 ·rintro m s ⟨k,a,i,F,rfl,e⟩;refine Az e ?_;clear e;by_cases b:k < l.length
  ·refine Aa fun _ v=>Ac 1 fun h C=>?_;simp only[go_sem,b];refine v (Aa fun _ w=>Al (Ae (w (Aa fun _ y=>Ai (Aa fun _ z=>Ac 4 fun j D=>?_)))));simp only[go_sem,getM b];refine z ?_;have f:j≠a:=Ar D i 0 (by simp[go_sem]);refine Am fun n _ _ _ c B=>Af 4 c ?_;simp only[go_sem,f.symm];refine AG c rfl rfl rfl rfl rfl es23 sz25 by25 ze25 rfl (by decide) ?_;simp only[go_sem,eG (ga b),f];first | refine ⟨⟨by omega,by omega⟩,?_⟩ | skip
   refine Ad 1 c ?_;simp only[go_sem];refine B (y (Ac 2 fun _ _=>?_));simp only[go_sem];try simp (disch:=omega) only[Au]
   refine ⟨_,?_,k + 1,n,16,b,rfl,Ao ?_⟩
   ·omega
   simp only[go_sem,PD (fun x:Param=>x.type) AC b];all_goals first|trivial|omega
  ·refine Aa fun _ A=>Ac 1 fun h C=>?_;simp only[go_sem,b];refine A (Aa fun _ _=>Aj (Aq (t (Aa fun _ q=>Ac 2 fun _ _=>?_))));simp only[go_sem];refine q (Ah ?_);have:k=l.length:=by omega
   subst this;refine AY ⟨a,i,0⟩ ?_;simp only[go_sem];refine Ag ?_;simp only[go_sem];exact Co.of_eq (by simp[])
set_option maxRecDepth 100000 in
theorem P0 (s:Sig) (h1:s.formals.length≤400000) (h2:s.params.length≤400000) (g d:Nat):ACalls E 106 [AH s] [] g d (slTy (AP s)) []:=by
 refine Ax 15 Tryz.call106 Tryz.func106 ?_;simp only[go_sem];refine Aa fun _ c=>Ac 2 fun _ _=>?_;simp only[go_sem];refine c (Aa fun _ e=>AF 11 fun b _ _ _ a f=>Av 2 a ?_);simp only[go_sem];refine AI a rfl rfl rfl (LG s.formals (by omega) _ _) (CoL.refl _) rfl ?_;refine Av 2 a ?_;simp only[go_sem];refine AI a rfl rfl rfl (MH s.params (by omega) _ _) (CoL.refl _) rfl ?_;refine Av 1 a ?_;simp only[go_sem];refine AI a rfl rfl rfl (QI (s.formals.map (·.bound)) (s.params.map (·.type)) (by simp; omega) _ _) (CoL.refl _) (by simp[nwOk]) ?_;refine Ap 3 a ?_;simp only[go_sem];refine Af 0 a ?_
 simp only[go_sem];refine AG a rfl rfl rfl rfl rfl es23 sz25 by25 ze25 rfl (by decide) ?_;simp only[go_sem];first | refine ⟨⟨by omega,by omega⟩,?_⟩ | skip
 refine Ad 1 a ?_;simp only[go_sem];refine f (e (Ah ?_));refine AY ⟨b,14,0⟩ ?_;simp only[go_sem];refine Ag ?_;simp only[go_sem];exact Co.of_eq (by simp[AP])
def most:Int:=4611686018427387903
def inR (a:Int):Prop:=0≤a∧a≤4611686018427387903
def Ec (a b:Int):Int:=if 4611686018427387903 - b < a then 4611686018427387903 else a + b
def mulS (a b:Int):Int:=if b≠0∧4611686018427387903 / b < a then 4611686018427387903 else a * b
def powS (a:Int):Nat→Int
 | 0=>1
 | n + 1=>mulS (powS a n) a
def typS (d:Int) (a:Nat):Nat→Int
 | 0=>0
 | h + 1=>mulS d (powS (Ec (typS d a h) 1) a)
theorem GS {a b:Int} (_:0≤a) (hb:0 < b):4611686018427387903 / b < a↔4611686018427387903 < a * b:=by
 rw[Int.ediv_lt_iff_lt_mul hb]
theorem Km {a b:Int} (ha:inR a) (hb:inR b):mulS a b=if 4611686018427387903 < a * b then 4611686018427387903 else a * b:=by
 unfold mulS;by_cases h0:b=0
 ·subst h0;simp
 ·have c:0 < b:=by unfold inR at hb; omega
  by_cases h:4611686018427387903 / b < a
  ·rw[if_pos ⟨h0,h⟩,if_pos ((GS ha.1 c).1 h)]
  ·rw[if_neg (fun x=>h x.2),if_neg (fun x=>h ((GS ha.1 c).2 x))]
theorem CK {a b:Int} (ha:inR a) (hb:inR b):inR (Ec a b):=by
 unfold inR at *;unfold Ec;split <;> omega
theorem Df {a b:Int} (ha:inR a) (hb:inR b):inR (mulS a b):=by
 rw[Km ha hb];have:=Int.mul_nonneg ha.1 hb.1;unfold inR;split <;> omega
theorem Dm {a:Int} (ha:inR a):∀ n,inR (powS a n)
 | 0=>by unfold powS inR; omega
 | n + 1=>Df (Dm ha n) ha
theorem Cn:inR 1:=by unfold inR; omega
theorem Ko {d:Int} (hd:inR d) (a:Nat):∀ h,inR (typS d a h)
 | 0=>by unfold typS inR; omega
 | h + 1=>Df hd (Dm (CK (Ko hd a h) Cn) a)
theorem Gp (a b:Int) (ha:inR a) (hb:inR b) (g d:Nat):ACalls E 14 [dI a,dI b] [] g d (dI (Ec a b)) []:=by
 obtain ⟨m,n⟩:=ha;obtain ⟨o,p⟩:=hb;refine Ax 12 Tryz.call14 Tryz.func14 ?_;simp only[go_sem];refine Aa fun _ f=>Ac 1 fun _ _=>?_;simp only[go_sem];refine f (Aa fun _ i=>Aa fun _ c=>?_);by_cases h:4611686018427387903 - b < a
 ·refine Ac 4 fun e l=>?_;simp only[go_sem];try simp (disch:=omega) only[Au]
  try simp only[go_sem,h]
  try simp (disch:=omega) only[Au,Ba,dZ,ed]
  refine c (Al (Aa fun _ j=>Ac 1 fun _ _=>?_));simp only[go_sem];refine j (Ah (Ag ?_));simp only[go_sem];exact Co.of_eq (by simp[Ec,h])
 ·refine Ac 4 fun e l=>?_;simp only[go_sem];try simp (disch:=omega) only[Au]
  try simp only[go_sem,h]
  try simp (disch:=omega) only[Au,Ba,dZ,ed]
  refine c (Aj (Ae (i (Aa fun _ k=>Ac 4 fun _ _=>?_))));simp only[go_sem];try simp (disch:=omega) only[Au]
  refine k (Ah (Ag ?_));simp only[go_sem];exact Co.of_eq (by simp[Ec,h])
theorem D3 (a b:Int) (ha:inR a) (hb:inR b) (g d:Nat):ACalls E 15 [dI a,dI b] [] g d (dI (mulS a b)) []:=by
 have A:=Km ha hb;have B:=Int.mul_nonneg ha.1 hb.1;have w:=ha;have y:=hb;obtain ⟨k,u⟩:=ha;obtain ⟨l,v⟩:=hb;refine Ax 16 Tryz.call15 Tryz.func15 ?_;simp only[go_sem];refine Aa fun _ n=>Ac 1 fun _ _=>?_;simp only[go_sem];refine n (Aa fun _ f=>Aa fun _ c=>?_);by_cases h0:b=0
 ·subst h0;refine Ac 8 fun e i=>?_;simp only[go_sem];try simp (disch:=omega) only[Au,Ba,dZ,ed]
  refine c (Aj (Ae (f (Aa fun _ o=>Ac 4 fun m s=>?_))));simp only[go_sem,Int.mul_zero];try simp (disch:=omega) only[Au]
  refine o (Ah (Ag ?_));simp only[go_sem];exact Co.of_eq (by simp[mulS])
 ·have r:0 < b:=by omega
  have C:0≤4611686018427387903 / b:=Int.ediv_nonneg (by omega) l;have D:4611686018427387903 / b≤4611686018427387903:=Int.ediv_le_self _ (by omega);have j:IntKind.i64.wrap (Int.tdiv 4611686018427387903 b)=4611686018427387903 / b:=by
   rw[dZ (by omega)];exact Au _ (by omega) (by omega)
  by_cases h:4611686018427387903 / b < a
  ·refine Ac 8 fun e i=>?_;simp only[go_sem,h0,j,h];try simp (disch:=omega) only[Au,Ba,dZ,ed]
   refine c (Al (Aa fun _ p=>Ac 1 fun _ _=>?_));simp only[go_sem];refine p (Ah (Ag ?_));simp only[go_sem];exact Co.of_eq (by simp[mulS,h,h0])
  ·have z:¬ 4611686018427387903 < a * b:=fun x=>h ((GS k r).2 x);have t:IntKind.i64.wrap (a * b)=a * b:=Au _ (by omega) (by omega);refine Ac 8 fun e i=>?_;simp only[go_sem,h0,j,h];try simp (disch:=omega) only[Au,Ba,dZ,ed]
   refine c (Aj (Ae (f (Aa fun _ q=>Ac 4 fun m s=>?_))));simp only[go_sem,t];try simp (disch:=omega) only[Au,Ba,dZ,ed]
   refine q (Ah (Ag ?_));simp only[go_sem];exact Co.of_eq (by simp[mulS,h])
theorem WM (x:Int) (h1:0≤x) (h2:x < 18446744073709551616):IntKind.u64.wrap x=x:=by
 simp only[IntKind.wrap,IntKind.bits,IntKind.signed,fc,fb,if_false];have e:(2:Int) ^ 64=18446744073709551616:=by decide
 rw[e];exact Int.emod_eq_of_lt h1 h2
theorem Dl (a b:Int) (ha:inR a) (hb:inR b) (g d:Nat):ACalls E 31 [dI a,dI b] [] g d (dI (Ec a b)) []:=by
 obtain ⟨f,i⟩:=ha;obtain ⟨j,k⟩:=hb;have n:IntKind.u64.wrap a=a:=WM _ (by omega) (by omega);have o:IntKind.u64.wrap b=b:=WM _ (by omega) (by omega);have p:IntKind.u64.wrap (a + b)=a + b:=WM _ (by omega) (by omega);have e:(if 4611686018427387903 < a + b then 4611686018427387903 else a + b)=Ec a b:=by
  unfold Ec;by_cases h:4611686018427387903 - b < a
  ·rw[if_pos (by omega),if_pos h]
  ·rw[if_neg (by omega),if_neg h]
 have c:=CK (a:=a) (b:=b) ⟨f,i⟩ ⟨j,k⟩;have q:IntKind.i64.wrap (Ec a b)=Ec a b:=Au _ (by unfold inR at c; omega) (by unfold inR at c; omega);refine Ax 12 Tryz.call31 Tryz.func31 ?_;simp only[go_sem];refine Aa fun _ l=>Ac 1 fun _ _=>?_;simp only[go_sem];refine l (Aa fun _ m=>Ac 8 fun _ _=>?_);simp only[go_sem,n,o,p,e,q];try simp (disch:=omega) only[Au,Ba,dZ,ed]
 refine m (Ah (Ag ?_));simp only[go_sem];exact Co.refl _
theorem CS (a b:Int) (ha:inR a) (hb:inR b) (g d:Nat):ACalls E 32 [dI a,dI b] [] g d (dI (mulS a b)) []:=by
 have e:=Km ha hb;have G:=Int.mul_nonneg ha.1 hb.1;obtain ⟨n,D⟩:=ha;obtain ⟨k,F⟩:=hb;refine Ax 18 Tryz.call32 Tryz.func32 ?_;simp only[go_sem];refine Aa fun _ q=>Ac 1 fun _ _=>?_;simp only[go_sem];refine q (Aa fun _ l=>Aa fun _ c=>?_);by_cases h0:a=0
 ·subst h0;refine Ac 6 fun f i=>?_;simp only[go_sem];refine c (Al (Aa fun _ t=>Ac 1 fun o z=>?_));simp only[go_sem];refine t (Ah (Ag ?_));simp only[go_sem];exact Co.of_eq (by rw[e]; simp)
 ·by_cases j:b=0
  ·subst j;refine Ac 6 fun f i=>?_;simp only[go_sem,h0];refine c (Al (Aa fun _ u=>Ac 1 fun o z=>?_));simp only[go_sem];refine u (Ah (Ag ?_));simp only[go_sem];exact Co.of_eq (by rw[e]; simp)
  ·have ha0:0 < a:=by omega
   have H:0≤4611686018427387903 / a:=Int.ediv_nonneg (by omega) n;have I:4611686018427387903 / a≤4611686018427387903:=Int.ediv_le_self _ (by omega);have m:IntKind.i64.wrap (Int.tdiv 4611686018427387903 a)=4611686018427387903 / a:=by
    rw[dZ (by omega)];exact Au _ (by omega) (by omega)
   by_cases h:4611686018427387903 / a < b
   ·have hgt:4611686018427387903 < a * b:=by rw[Int.mul_comm]; exact (GS k ha0).1 h
    refine Ac 6 fun f i=>?_;simp only[go_sem,h0,j];refine c (Aj (Ae (l (Aa fun _ _=>Aa fun _ v=>Ac 4 fun p A=>?_))));simp only[go_sem,h0,m,h];try simp (disch:=omega) only[Au,Ba,dZ,ed]
    refine v (Al (Aa fun _ w=>Ac 1 fun _ _=>?_));simp only[go_sem];refine w (Ah (Ag ?_));simp only[go_sem];exact Co.of_eq (by rw[e,if_pos hgt])
   ·have B:¬ 4611686018427387903 < a * b:=fun x=>h ((GS k ha0).2 (by rw[Int.mul_comm]; exact x));have C:IntKind.i64.wrap (a * b)=a * b:=Au _ (by omega) (by omega);refine Ac 6 fun f i=>?_;simp only[go_sem,h0,j];refine c (Aj (Ae (l (Aa fun _ y=>Aa fun _ r=>Ac 4 fun p A=>?_))));simp only[go_sem,h0,m,h];try simp (disch:=omega) only[Au,Ba,dZ,ed]
    refine r (Aj (Ae (y (Aa fun _ s=>Ac 4 fun _ _=>?_))));simp only[go_sem,C];try simp (disch:=omega) only[Au,Ba,dZ,ed]
    refine s (Ah (Ag ?_));simp only[go_sem];exact Co.of_eq (by rw[e,if_neg B])
theorem Jw (a:Int) (n:Nat) (ha:inR a) (hn:n≤1000000) (g d:Nat):ACalls E 16 [dI a,dN n] [] g d (dI (powS a n)) []:=by
 refine Ax 14 Tryz.call16 Tryz.func16 ?_;simp only[go_sem];refine Aa fun _ i=>Ac 1 fun _ _=>?_;simp only[go_sem];refine i (Aa fun _ j=>Ac 1 fun _ _=>?_);simp only[go_sem];refine j (Aa fun _ l=>Aa fun _ o=>Ac 2 fun _ _=>?_);simp only[go_sem];refine o (Ai ?_);refine Ay (fun m s=>∃ k,k≤n∧m=n - k∧Le { env:=[(0,dI a),(6,dN n),(7,dN k),(5,dI (powS a k))],σ:=[] } s) n ?_ ?_
 ·refine ⟨0,dX _,rfl,Ao ?_⟩;simp only[go_sem];exact ⟨rfl,rfl⟩
 ·rintro m s ⟨k,v,rfl,f⟩;refine Az f ?_;clear f;refine Aa fun _ e=>?_;by_cases b:k < n
  ·refine Ac 1 fun h u=>?_;simp only[go_sem,b];refine e (Aa fun _ p=>Al (Ae (p (Aa fun _ q=>Ai (Am fun _ _ _ _ c t=>Af 2 c ?_)))));simp only[go_sem];refine Ak c (D3 _ _ (Dm ha k) ha _ _) ?_;refine Ad 1 c ?_;simp only[go_sem];refine t (q (Ac 2 fun _ _=>?_));simp only[go_sem];try simp (disch:=omega) only[Au]
   refine ⟨_,?_,k + 1,b,rfl,Ao ?_⟩
   ·omega
   simp only[go_sem];exact ⟨rfl,rfl⟩
  ·have:k=n:=by omega
   subst this;refine Ac 1 fun h u=>?_;simp only[go_sem,b];refine e (Aa fun _ _=>Aj (Aq (l (Aa fun _ r=>Ac 2 fun _ _=>?_))));simp only[go_sem];refine r (Ah (Ag ?_));simp only[go_sem];exact Co.refl _
theorem JM (x:Int) (a h:Nat) (hx:inR x) (ha:a≤1000000) (hh:h≤1000000) (g d:Nat):ACalls E 13 [dI x,dN a,dN h] [] g d (dI (typS x a h)) []:=by
 refine Ax 19 Tryz.call13 Tryz.func13 ?_;simp only[go_sem];refine Aa fun _ n=>Ac 1 fun _ _=>?_;simp only[go_sem];refine n (Aa fun _ o=>Ac 1 fun _ _=>?_);simp only[go_sem];refine o (Aa fun _ p=>Aa fun _ q=>Ac 2 fun _ _=>?_);simp only[go_sem];refine q (Ai ?_);refine Ay (fun m s=>∃ k,k≤h∧m=h - k∧Le { env:=[(0,dI x),(1,dN a),(8,dN h),(9,dN k),(7,dI (typS x a k))],σ:=[] } s) h ?_ ?_
 ·refine ⟨0,dX _,rfl,Ao ?_⟩;simp only[go_sem];exact ⟨rfl,rfl⟩
 ·rintro m s ⟨k,y,rfl,f⟩;refine Az f ?_;clear f;refine Aa fun _ e=>?_;by_cases c:k < h
  ·have i:=Ko hx a k;have j:=CK i Cn;refine Ac 1 fun l w=>?_;simp only[go_sem,c];refine e (Aa fun _ r=>Al (Ae (r (Aa fun _ t=>Ai (Am fun _ _ _ _ b v=>Af 2 b ?_)))));simp only[go_sem];refine Ak b (Gp _ 1 i Cn _ _) ?_;refine Af 1 b ?_;simp only[go_sem];refine Ak b (Jw _ a j ha _ _) ?_;refine Ak b (D3 _ _ hx (Dm j a) _ _) ?_;refine Ad 1 b ?_;simp only[go_sem];refine v (t (Ac 2 fun _ _=>?_));simp only[go_sem];try simp (disch:=omega) only[Au]
   refine ⟨_,?_,k + 1,c,rfl,Ao ?_⟩
   ·omega
   simp only[go_sem];exact ⟨rfl,rfl⟩
  ·have:k=h:=by omega
   subst this;refine Ac 1 fun l w=>?_;simp only[go_sem,c];refine e (Aa fun _ _=>Aj (Aq (p (Aa fun _ u=>Ac 2 fun _ _=>?_))));simp only[go_sem];refine u (Ah (Ag ?_));simp only[go_sem];exact Co.refl _
set_option maxRecDepth 100000 in
theorem EO (a:Int) (ha:inR a):∀ (n:Nat),n≤1000000→∀ g d,ACalls E 33 [dI a,dN n] [] g d (dI (powS a n)) []
 | 0,_,g,d=>by
  refine Ax 13 Tryz.call33 Tryz.func33 ?_;simp only[go_sem];refine Aa fun K1 hK1=>Ac 1 fun g0 hg0=>?_;simp only[go_sem];refine hK1 (Aa fun K2 hK2=>Aa fun K3 hK3=>Ac 2 fun g1 hg1=>?_);simp only[go_sem,show (((0:Nat):Int)=0)=True from eq_true rfl];refine hK3 (Al (Aa fun K4 hK4=>Ac 1 fun _ _=>?_));simp only[go_sem];refine hK4 (Ah (Ag ?_));simp only[go_sem];exact Co.of_eq rfl
 | n + 1,hn,g,d=>by
  have h0:¬ (((n + 1:Nat):Int)=0):=by omega
  have c:((n + 1:Nat):Int) - 1=(n:Int):=by omega
  have f:IntKind.i64.wrap (((n + 1:Nat):Int) - 1)=(n:Int):=by rw[c]; exact Au _ (by omega) (by omega)
  refine Ax 13 Tryz.call33 Tryz.func33 ?_;simp only[go_sem];refine Aa fun K1 hK1=>Ac 1 fun g0 hg0=>?_;simp only[go_sem];refine hK1 (Aa fun K2 hK2=>Aa fun K3 hK3=>Ac 2 fun g1 hg1=>?_);simp only[go_sem,h0];refine hK3 (Aj (Ae (hK2 (Aa fun K4 hK4=>Am fun _ _ _ _ b e=>Af 3 b ?_))));simp only[go_sem,f];try simp (disch:=omega) only[Au,Ba,dZ,ed]
  refine AA b rfl rfl rfl (EO a ha n (by omega) _ _) (CoL.refl _) ?_;refine Af 1 b ?_;simp only[go_sem];refine Ak b (CS _ _ (Dm ha n) ha _ _) ?_;refine Ad 1 b ?_;simp only[go_sem];refine e (hK4 (Ah (Ag ?_)));simp only[go_sem];exact Co.of_eq rfl
set_option maxRecDepth 100000 in
theorem EP (x:Int) (a:Nat) (hx:inR x) (ha:a≤1000000):∀ (h:Nat),h≤1000000→∀ g d,ACalls E 30 [dI x,dN a,dN h] [] g d (dI (typS x a h)) []
 | 0,_,g,d=>by
  refine Ax 19 Tryz.call30 Tryz.func30 ?_;simp only[go_sem];refine Aa fun K1 hK1=>Ac 1 fun g0 hg0=>?_;simp only[go_sem];refine hK1 (Aa fun K2 hK2=>Aa fun K3 hK3=>Ac 2 fun g1 hg1=>?_);simp only[go_sem,show (((0:Nat):Int)=0)=True from eq_true rfl];refine hK3 (Al (Aa fun K4 hK4=>Ac 1 fun _ _=>?_));simp only[go_sem];refine hK4 (Ah (Ag ?_));simp only[go_sem];exact Co.of_eq rfl
 | n + 1,hn,g,d=>by
  have h0:¬ (((n + 1:Nat):Int)=0):=by omega
  have f:((n + 1:Nat):Int) - 1=(n:Int):=by omega
  have j:IntKind.i64.wrap (((n + 1:Nat):Int) - 1)=(n:Int):=by rw[f]; exact Au _ (by omega) (by omega)
  have c:=Ko hx a n;have e:=CK c Cn;refine Ax 19 Tryz.call30 Tryz.func30 ?_;simp only[go_sem];refine Aa fun K1 hK1=>Ac 1 fun g0 hg0=>?_;simp only[go_sem];refine hK1 (Aa fun K2 hK2=>Aa fun K3 hK3=>Ac 2 fun g1 hg1=>?_);simp only[go_sem,h0];refine hK3 (Aj (Ae (hK2 (Aa fun K4 hK4=>Am fun _ _ _ _ b i=>Af 5 b ?_))));simp only[go_sem,j];try simp (disch:=omega) only[Au,Ba,dZ,ed]
  refine AA b rfl rfl rfl (EP x a hx ha n (by omega) _ _) (CoL.refl _) ?_;refine Ak b (Dl _ 1 c Cn _ _) ?_;refine Af 1 b ?_;simp only[go_sem];refine Ak b (EO _ e a ha _ _) ?_;refine Ak b (CS _ _ hx (Dm e a) _ _) ?_;refine Ad 1 b ?_;simp only[go_sem];refine i (hK4 (Ah (Ag ?_)));simp only[go_sem];exact Co.of_eq rfl
abbrev nilS:D:=.val (.slice none 0 0)
abbrev noS:D:=.sl false []
set_option maxRecDepth 100000 in
theorem T1 (g d:Nat):ACalls E 104 [nilS] [] g d noS []:=by
 refine Ax 19 Tryz.call104 Tryz.func104 ?_;simp only[go_sem];refine Aa fun _ b=>Ac 1 fun _ _=>?_;simp only[go_sem];refine b (Aa fun _ c=>Ac 1 fun _ _=>?_);simp only[go_sem];refine c (Aa fun _ e=>Aa fun _ f=>Ac 3 fun _ _=>?_);simp only[go_sem];refine f (Ai ?_);refine Ay (fun m s=>m=0∧Le { env:=[(3,nilS),(7,dN 0),(8,dN 0)],σ:=[] } s) 0 ?_ ?_
 ·refine ⟨rfl,Ao ?_⟩;simp only[go_sem];first | exact rfl | trivial
 ·rintro m s ⟨rfl,a⟩;refine Az a ?_;clear a;refine Aa fun _ h=>Ac 1 fun _ _=>?_;simp only[go_sem,show (((0:Nat):Int) < ((0:Nat):Int))=False from eq_false (by decide)];refine h (Aa fun _ _=>Aj (Aq (e (Aa fun _ i=>Ac 2 fun _ _=>?_))));simp only[go_sem];refine i (Ah (Ag ?_));simp only[go_sem];exact Co.nil _
set_option maxRecDepth 100000 in
theorem U5 (g d:Nat):ACalls E 105 [nilS] [] g d noS []:=by
 refine Ax 19 Tryz.call105 Tryz.func105 ?_;simp only[go_sem];refine Aa fun _ b=>Ac 1 fun _ _=>?_;simp only[go_sem];refine b (Aa fun _ c=>Ac 1 fun _ _=>?_);simp only[go_sem];refine c (Aa fun _ e=>Aa fun _ f=>Ac 3 fun _ _=>?_);simp only[go_sem];refine f (Ai ?_);refine Ay (fun m s=>m=0∧Le { env:=[(3,nilS),(7,dN 0),(8,dN 0)],σ:=[] } s) 0 ?_ ?_
 ·refine ⟨rfl,Ao ?_⟩;simp only[go_sem];first | exact rfl | trivial
 ·rintro m s ⟨rfl,a⟩;refine Az a ?_;clear a;refine Aa fun _ h=>Ac 1 fun _ _=>?_;simp only[go_sem,show (((0:Nat):Int) < ((0:Nat):Int))=False from eq_false (by decide)];refine h (Aa fun _ _=>Aj (Aq (e (Aa fun _ i=>Ac 2 fun _ _=>?_))));simp only[go_sem];refine i (Ah (Ag ?_));simp only[go_sem];exact Co.nil _
theorem Yl (g d:Nat):ACalls E 140 [nilS,dI 0] [] g d nilS []:=by
 refine Ax 27 Tryz.call140 Tryz.func140 ?_;simp only[go_sem];refine Aa fun _ a=>Ac 1 fun _ _=>?_;simp only[go_sem];refine a (Aa fun _ b=>Aa fun _ c=>Ac 2 fun _ _=>?_);simp only[go_sem,show ((0:Int) < 0)=False from eq_false (by decide)];refine c (Aj (Ae (b (Aa fun _ e=>Aa fun _ f=>Ac 8 fun _ _=>?_))));simp only[go_sem];try simp (disch:=omega) only[Au]
 refine f (Aa fun _ h=>Ac 2 fun _ _=>?_);simp only[go_sem];refine h (Aj (Ae (e (Aa fun _ i=>Ac 2 fun _ _=>?_))));simp only[go_sem];refine i (Ah (Ag ?_));simp only[go_sem];exact Co.refl _
theorem Ym (k:Nat) (h:k < 2):([noS,noS]:List D)[k]?=some noS:=by
 match k,h with
 | 0,_=>rfl
 | 1,_=>rfl
set_option maxRecDepth 100000 in
theorem U6 (g d:Nat):ACalls E 103 [.sl true [noS,noS]] [] g d noS []:=by
 refine Ax 36 Tryz.call103 Tryz.func103 ?_;simp only[go_sem];refine Aa fun _ r=>Ac 1 fun _ _=>?_;simp only[go_sem];refine r (Aa fun _ A=>Ac 1 fun _ _=>?_);simp only[go_sem];refine A (Aa fun _ C=>Aa fun _ D=>Ac 3 fun _ _=>?_);simp only[go_sem];refine D (Ai ?_);refine Ay (fun m s=>∃ k,k≤2∧m=2 - k∧Le { env:=[(0,.sl true [noS,noS]),(3,dI 0),(9,.sl true [noS,noS]),(10,dN 2),(11,dN k)],σ:=[] } s) 2 ?_ ?_
 ·refine ⟨0,dX _,rfl,Ao ?_⟩;simp only[go_sem];first | exact rfl | exact ⟨rfl,rfl⟩ | trivial
 ·rintro m s ⟨k,N,rfl,b⟩;refine Az b ?_;clear b;refine Aa fun _ l=>?_;by_cases c:k < 2
  ·have e : (k:Int) < ((2:Nat):Int):=by omega
   refine Ac 1 fun p M=>?_;simp only[go_sem,e];refine l (Aa fun _ F=>Al (Ae (F (Aa fun _ G=>Ai (Aa fun _ H=>Ac 3 fun _ _=>?_)))));simp only[go_sem,Ym k c];refine H (Aa fun _ I=>Ac 5 fun _ _=>?_);simp only[go_sem];try simp (disch:=omega) only[Au]
   refine I (Aa fun _ t=>Ac 2 fun _ _=>?_);simp only[go_sem];refine t (Aj (Ae (G (Ac 2 fun _ _=>?_))));simp only[go_sem];try simp (disch:=omega) only[Au]
   refine ⟨_,?_,k + 1,c,rfl,Ao ?_⟩
   ·omega
   simp only[go_sem];first | exact rfl | exact ⟨rfl,rfl⟩ | trivial
  ·have:k=2:=by omega
   subst this;refine Ac 1 fun p M=>?_;simp only[go_sem,show (((2:Nat):Int) < ((2:Nat):Int))=False from eq_false (by decide)];refine l (Aa fun _ _=>Aj (Aq (C (Aa fun _ u=>Am fun _ _ _ _ h K=>Af 1 h ?_))));simp only[go_sem];refine Ak h (Yl _ _) ?_;refine Ad 1 h ?_;simp only[go_sem];refine K (u (Aa fun _ v=>Aa fun _ w=>Ac 3 fun _ _=>?_));simp only[go_sem];refine w (Ai ?_);refine Bh 6 25 3 rfl fun q _=>?_;refine Ay (fun m s=>∃ k a i,k≤2∧m=2 - k∧Le { env:=[(6,.own ⟨a,i,0⟩ 0),(25,.sl true [noS,noS]),(26,dN 2),(27,dN k)],σ:=[(⟨a,i,0⟩,.arr 25 3 [])] } s) 2 ?_ ?_
   ·refine ⟨0,q,0,dX _,rfl,Ao ?_⟩;simp only[go_sem];first | exact rfl | exact ⟨rfl,rfl⟩ | trivial
   ·rintro m s ⟨k,a,i,N,rfl,b⟩;refine Az b ?_;clear b;refine Aa fun _ j=>?_;by_cases c:k < 2
    ·have e : (k:Int) < ((2:Nat):Int):=by omega
     refine Ac 1 fun n L=>?_;simp only[go_sem,e];refine j (Aa fun _ x=>Al (Ae (x (Aa fun _ y=>Ai (Aa fun _ z=>Ac 3 fun _ _=>?_)))));simp only[go_sem,Ym k c];refine z (Am fun o _ _ _ f J=>Af 2 f ?_);simp only[go_sem];refine AG f rfl rfl rfl rfl rfl es23 sz25 by25 ze25 rfl (by decide) ?_;simp only[go_sem];first | refine ⟨⟨by omega,by omega⟩,?_⟩ | skip
     refine Ad 1 f ?_;simp only[go_sem];refine J (y (Ac 2 fun _ _=>?_));simp only[go_sem];try simp (disch:=omega) only[Au]
     refine ⟨_,?_,k + 1,o,33,c,rfl,Ao ?_⟩
     ·omega
     simp only[go_sem];first | exact rfl | exact ⟨rfl,rfl⟩ | trivial
    ·have:k=2:=by omega
     subst this;refine Ac 1 fun n L=>?_;simp only[go_sem,show (((2:Nat):Int) < ((2:Nat):Int))=False from eq_false (by decide)];refine j (Aa fun _ _=>Aj (Aq (v (Aa fun _ B=>Ac 2 fun _ _=>?_))));simp only[go_sem];refine B (Ah ?_);refine AY ⟨a,i,0⟩ ?_;simp only[go_sem];refine Ag ?_;simp only[go_sem];exact Co.inexact _ _
def sTR:Str:=⟨#[84]⟩
def tT:Ty:=.mk sTR [] 0
def e0:Ex:=.mk 3 ByteArray.empty tT [] [] 0
abbrev e0c:List D:=[dI 3,.val (.string ByteArray.empty),.val (.string sTR),nilS,dI 0,nilS,nilS,dI 0]
theorem coE0:Co (.agg e0c) (AK e0):=by
 rw[El];exact .agg (.cons (.refl _) (.cons (.refl _) (.cons (.refl _) (.cons (.nil _) (.cons (.refl _) (.cons (.nil _) (.cons (.nil _) (.cons (.refl _) .nil))))))))
theorem okE0:okEx e0:=by simp[e0,tT,okEx,MU,okTy,Jg,sTR,ByteArray.size]
theorem Kq:AB e0=[e0]:=by simp[e0,AB,Be]
theorem DE {l σ:Sto} (h:leS l σ):∀ n o,Ab.get l n=some o→Ab.get σ n=some o:=fun n o hn=>KM h (n,o) (AQ hn)
set_option maxRecDepth 100000 in
theorem abd (g d:Nat):ACalls E 107 [.agg e0c] [] g d (.sl false [AC tT]) []:=by
 refine Ax 28 Tryz.call107 Tryz.func107 ?_;simp only[go_sem];refine Aa fun _ B=>Ac 2 fun A _=>?_;simp only[go_sem];refine B (Aa fun _ C=>Ac 1 fun c _=>?_);simp only[go_sem];refine C (Aa fun _ D=>Aa fun _ F=>Am fun _ _ _ _ s L=>Af 1 s ?_);simp only[go_sem];refine AA s rfl rfl rfl (Ia e0 _ _) (.cons coE0 .nil) ?_;refine Ad 0 s ?_;simp only[go_sem];refine L (F (Ai ?_));refine Di ⟨c,3,0⟩ 0 25 3 ?_;simp only[go_sem];intro j z;have m:j≠c:=Ar z 3 0 (by simp[go_sem]);have S:j≠A:=Ar z 1 0 (by simp[go_sem])
 refine Ho rfl rfl (by decide) ((AB e0).map AK) (fun k σ=>∃ a i,a≠c∧∀ n o,Ab.get [(⟨c,3,0⟩,.box 23 [.own ⟨a,i,0⟩ k]),(⟨a,i,0⟩,.arr 25 3 (List.replicate k (AC tT)))] n=some o→Ab.get σ n=some o) ⟨j,0,m,DE ?_⟩ (fun n I O=>H0 e0 okE0 n I O) (fun k Q σ h _ K=>?_) (fun σ h=>?_)
 ·simp only[go_sem,m,m.symm,S.symm,List.replicate];try trivial
 ·have R:k=0:=by simpa [Kq] using Q
  subst R;obtain ⟨a,i,e,u⟩:=h;refine Da (st':={ env:=[(7,AK e0),(3,.ptr ⟨c,3,0⟩ 0)],σ:=[(⟨c,3,0⟩,.box 23 [.own ⟨a,i,0⟩ 0]),(⟨a,i,0⟩,.arr 25 3 [])] }) ⟨CD ?_,u⟩ ?_
  ·simp only[go_sem,Kq];try trivial
  refine Ac 2 fun v x=>?_;simp only[go_sem,e0,tT];refine K _ (fun _ l=>?_);refine Ai (Aa fun _ G=>?_);have p:v≠a:=Ar x i 0 (by simp[go_sem,e.symm]);have b:v≠c:=Ar x 3 0 (by simp[go_sem]);refine Am fun w y _ _ t M=>Af 3 t ?_;simp only[go_sem,e,p.symm,b,b.symm];have U:w≠a:=Ar y i 0 (by simp[go_sem,e.symm,p]);have q:w≠c:=Ar y 3 0 (by simp[go_sem,b]);refine AG t rfl rfl rfl rfl rfl es23 sz25 by25 ze25 rfl (by decide) ?_;simp only[go_sem,e.symm,p];first | refine ⟨⟨by omega,by omega⟩,?_⟩ | skip
  refine Ad 1 t ?_;simp only[go_sem,b,q];refine M (G (Aa fun _ H=>Ac 8 fun _ _=>?_));simp only[go_sem,b.symm];refine H (Al ?_);refine Ou 5 (by kernel_rfl) (by kernel_rfl) rfl #[true,true,true,true,true,false,false,false,false] (by kernel_rfl) (fun f P _ _ T N=>?_);have r:f≠c:=Ar P 3 0 (by simp[go_sem]);refine Ap 5 T ?_;simp only[go_sem,b,b.symm,q];refine N _ ?_;refine CW 5 (by kernel_rfl) (by kernel_rfl) ?_;refine Qr rfl rfl rfl rfl rfl rfl rfl es23 sz25 by25 ze25 rfl (by decide) ?_;simp only[go_sem,q.symm];first | refine ⟨⟨by omega,by omega⟩,?_⟩ | skip
  refine Hb 6 8 (by kernel_rfl) (by kernel_rfl) ?_ ?_
  ·refine BL rfl rfl rfl ?_;simp only[go_sem];refine Hb 7 8 (by kernel_rfl) (by kernel_rfl) ?_ ?_
   ·refine BL rfl rfl rfl ?_;simp only[go_sem];refine CW 8 (by kernel_rfl) (by kernel_rfl) ?_;refine BL rfl rfl rfl ?_;simp only[go_sem,b];refine Es (by kernel_rfl) (by decide) ?_;refine l _ ?_;refine ⟨f,25,?_,DE ?_⟩
    ·exact r
    simp only[go_sem,tT,b];exact KN sTR [] 0
   ·refine BL rfl rfl rfl ?_;simp only[go_sem,b];refine CW 7 (by kernel_rfl) (by kernel_rfl) ?_;refine BL rfl rfl rfl ?_;simp only[go_sem];refine Es (by kernel_rfl) (by decide) ?_;refine l _ ?_;refine ⟨f,25,?_,DE ?_⟩
    ·exact r
    simp only[go_sem,tT,b];exact KN sTR [] 0
  ·refine BL rfl rfl rfl ?_;simp only[go_sem,b];refine CW 6 (by kernel_rfl) (by kernel_rfl) ?_;refine BL rfl rfl rfl ?_;simp only[go_sem];refine CW 7 (by kernel_rfl) (by kernel_rfl) ?_;refine BL rfl rfl rfl ?_;simp only[go_sem];refine Es (by kernel_rfl) (by decide) ?_;refine l _ ?_;refine ⟨f,25,?_,DE ?_⟩
   ·exact r
   simp only[go_sem,tT,b];exact KN sTR [] 0
 ·simp only[Kq,eM,f9,eB,eZ,eN] at h;obtain ⟨a,i,e,u⟩:=h;refine D (Aa fun _ J=>?_);refine Da (st':={ env:=[(3,.ptr ⟨c,3,0⟩ 0)],σ:=[(⟨c,3,0⟩,.box 23 [.own ⟨a,i,0⟩ 1]),(⟨a,i,0⟩,.arr 25 3 [AC tT])] }) ⟨CD ?_,u⟩ ?_
  ·simp only[go_sem];try trivial
  refine Ac 2 fun _ _=>?_;simp only[go_sem,e];refine J (Ah ?_);refine AY ⟨a,i,0⟩ ?_;simp only[go_sem,e.symm];refine Ag ?_;simp only[go_sem];exact Co.inexact _ _
set_option maxRecDepth 100000 in
theorem MI (l:List Ty) (hl:l.length≤1000000) (h:∀ t∈l,smTy t) (g d:Nat):ACalls E 108 [slTy l,.func (.func 109) [] []] [] g d (slTy l) []:=by
 refine Ax 22 Tryz.call108 Tryz.func108 ?_;simp only[go_sem];refine Aa fun _ q=>Ac 1 fun _ _=>?_;simp only[go_sem];refine q (Aa fun _ u=>Ac 1 fun _ _=>?_);simp only[go_sem];refine u (Aa fun _ v=>Aa fun _ w=>Ac 3 fun _ _=>?_);simp only[go_sem];refine w (Ai ?_);refine Bh 5 25 3 rfl fun p _=>?_;refine Ay (fun m s=>∃ k a i,k≤l.length∧m=l.length - k ∧
   Le { env:=[(1,.func (.func 109) [] []),(8,slTy l),(9,dN l.length),(10,dN k),(5,.own ⟨a,i,0⟩ k)],σ:=[(⟨a,i,0⟩,.arr 25 3 ((l.take k).map AC))] } s) l.length ?_ ?_
 ·refine ⟨0,p,0,dX _,rfl,Ao ?_⟩;simp only[go_sem];trivial
 ·rintro m s ⟨k,a,i,G,rfl,e⟩;refine Az e ?_;clear e;by_cases b:k < l.length
  ·refine Aa fun _ x=>Ac 1 fun j D=>?_;simp only[go_sem,b];refine x (Aa fun _ y=>Al (Ae (y (Aa fun _ z=>Ai (Aa fun _ A=>Ac 4 fun n F=>?_)))));simp only[go_sem,getM b];refine A ?_;have f:n≠a:=Ar F i 0 (by simp[go_sem]);refine Am fun o _ _ _ c C=>Af 3 c ?_;simp only[go_sem,f.symm];refine Ak c (UD _ (h _ (dP b)) _ _) ?_;refine Af 1 c ?_;simp only[go_sem];refine AG c rfl rfl rfl rfl rfl es23 sz25 by25 ze25 rfl (by decide) ?_;simp only[go_sem,eG (ga b),f];first | refine ⟨⟨by omega,by omega⟩,?_⟩ | skip
   refine Ad 1 c ?_;simp only[go_sem];refine C (z (Ac 2 fun _ _=>?_));simp only[go_sem];try simp (disch:=omega) only[Au]
   refine ⟨_,?_,k + 1,o,19,b,rfl,Ao ?_⟩
   ·omega
   simp only[go_sem,← HW _ b];omega
  ·refine Aa fun _ B=>Ac 1 fun j D=>?_;simp only[go_sem,b];refine B (Aa fun _ _=>Aj (Aq (v (Aa fun _ r=>Ac 2 fun _ _=>?_))));simp only[go_sem];refine r (Ah ?_);have:k=l.length:=by omega
   subst this;refine AY ⟨a,i,0⟩ ?_;simp only[go_sem];refine Ag ?_;simp only[go_sem];exact Co.of_eq (by simp[])
theorem aca:smTy tT:=(Bi _).2 ⟨by decide,by simp[tT,Ty.args],by simp[tT,Ty.args]⟩
theorem ZQ (g d:Nat):ACalls E 57 [AC tT] [] g d (dI 1) []:=by
 refine Ax 20 Tryz.call57 Tryz.func57 ?_;simp only[go_sem];refine Aa fun _ b=>Ac 2 fun _ _=>?_;simp only[go_sem];refine b (Aa fun _ c=>Ac 1 fun _ _=>?_);simp only[go_sem];refine c (Aa fun _ e=>Aa fun _ f=>Ac 4 fun _ _=>?_);simp only[go_sem,show tT.args=[] from rfl];refine f (Ai ?_);refine Ay (fun m s=>m=0∧Le { env:=[(3,dI 0),(8,dN 0),(9,dN 0)],σ:=[] } s) 0 ?_ ?_
 ·refine ⟨rfl,Ao ?_⟩;simp only[go_sem];first | exact rfl | exact ⟨rfl,rfl⟩ | trivial
 ·rintro m s ⟨rfl,a⟩;refine Az a ?_;clear a;refine Aa fun _ h=>Ac 1 fun _ _=>?_;simp only[go_sem,show (((0:Nat):Int) < ((0:Nat):Int))=False from eq_false (by decide)];refine h (Aa fun _ _=>Aj (Aq (e (Aa fun _ i=>Ac 3 fun _ _=>?_))));simp only[go_sem,show (0:Int) + 1=1 from rfl,show IntKind.i64.wrap 1=1 from by decide];try simp (disch:=omega) only[Au,Ba,dZ,ed]
  refine i (Ah (Ag ?_));simp only[go_sem];exact Co.of_eq (by simp[])
abbrev sE:D:=.val (.string ByteArray.empty)
abbrev dTc:List D:=[dI 1,.val (.string sTR),nilS,nilS,nilS,sE,nilS,sE,nilS,nilS,sE,nilS,dI 0,dI 0,dI 0,sE,sE,nilS,dI 0,nilS,nilS,dI 0,dI 0]
abbrev p0c:List D:=[.sl true [.agg dTc],dI 3,sE,.val (.string sTR),nilS,dI 0,nilS,nilS,dI 0]
theorem VJ (k:Nat) (h:k < 1):([.agg dTc]:List D)[k]?=some (.agg dTc):=by
 match k,h with
 | 0,_=>rfl
set_option maxRecDepth 100000 in
theorem ZR (g d:Nat):ACalls E 56 [.agg p0c] [] g d (slTy [tT]) []:=by
 refine Ax 57 Tryz.call56 Tryz.func56 ?_;simp only[go_sem];refine Aa fun _ y=>Ac 2 fun c _=>?_;simp only[go_sem];refine y (Aa fun _ F=>Ac 1 fun _ _=>?_);simp only[go_sem];refine F (Aa fun _ G=>Aa fun _ H=>Ac 4 fun _ _=>?_);simp only[go_sem];refine H (Ai ?_);refine Bh 3 25 3 rfl fun r Q=>?_;have p:r≠c:=Ar Q 1 0 (by simp[go_sem]);refine Ay (fun m s=>∃ k a i,k≤1∧m=1 - k∧a≠c ∧
   Le { env:=[(1,.ptr ⟨c,1,0⟩ 0),(9,.sl true [.agg dTc]),(10,dN 1),(11,dN k),(3,.own ⟨a,i,0⟩ 0)],σ:=[(⟨c,1,0⟩,.box 30 p0c),(⟨a,i,0⟩,.arr 25 3 [])] } s) 1 ?_ ?_
 ·refine ⟨0,r,0,dX _,rfl,p,Ao ?_⟩;simp only[go_sem,p,p.symm];first | exact rfl | exact ⟨rfl,rfl⟩ | trivial
 ·rintro m s ⟨k,a,i,T,rfl,o,f⟩;refine Az f ?_;clear f;refine Aa fun _ t=>?_;by_cases v:k < 1
  ·have R : (k:Int) < ((1:Nat):Int):=by omega
   refine Ac 1 fun x O=>?_;simp only[go_sem,R];refine t (Aa fun _ I=>Al (Ae (I (Aa fun _ J=>Ai (Aa fun _ K=>Ac 4 fun l u=>?_)))));simp only[go_sem,VJ k v];refine K (Aa fun _ L=>?_);have q:l≠a:=Ar u i 0 (by simp[go_sem,o.symm]);have e:l≠c:=Ar u 1 0 (by simp[go_sem]);refine AF 9 fun n P _ _ b N=>Av 3 b ?_;simp only[go_sem,q.symm,e.symm];refine Aw b (T1 _ _) ?_;refine Av 2 b ?_;simp only[go_sem,q.symm,e.symm];refine Aw b (U5 _ _) ?_;refine Av 1 b ?_;simp only[go_sem];refine Aw b (U6 _ _) ?_;refine Ap 0 b ?_;simp only[go_sem];refine Af 0 b ?_;simp only[go_sem]
   refine AG b rfl rfl rfl rfl rfl es23 sz25 by25 ze25 rfl (by decide) ?_;simp only[go_sem,o.symm,q];first | refine ⟨⟨by omega,by omega⟩,?_⟩ | skip
   refine Ad 1 b ?_;simp only[go_sem];refine N (L (Aa fun _ z=>Aa fun _ A=>?_));have h:n≠c:=Ar P 1 0 (by simp[go_sem,e]);refine Ac 4 fun _ _=>?_;simp only[go_sem,e.symm];refine A (Ai ?_);refine Ay (fun m s=>m=0∧Le { env:=[(1,.ptr ⟨c,1,0⟩ 0),(9,.sl true [.agg dTc]),(10,dN 1),(11,dN k),(3,.own ⟨n,24,0⟩ 0),(5,.ptr ⟨l,5,0⟩ 0),(27,dN 0),(28,dN 0)],σ:=[(⟨c,1,0⟩,.box 30 p0c),(⟨l,5,0⟩,.box 48 dTc),(⟨n,24,0⟩,.arr 25 3 [])] } s) 0 ?_ ?_
   ·refine ⟨rfl,Ao ?_⟩;simp only[go_sem,e,e.symm,h,h.symm];first | exact rfl | exact ⟨rfl,rfl⟩ | trivial
   ·rintro m s ⟨rfl,f⟩;refine Az f ?_;clear f;refine Aa fun _ B=>Ac 1 fun _ _=>?_;simp only[go_sem,show (((0:Nat):Int) < ((0:Nat):Int))=False from eq_false (by decide)];refine B (Aa fun _ _=>Aj (Aq (z (Aa fun _ C=>Ac 3 fun _ _=>?_))));simp only[go_sem,show ((1:Int)=3)=False from eq_false (by decide),e.symm];refine C (Aj (Ae (J (Ac 2 fun _ _=>?_))));simp only[go_sem];try simp (disch:=omega) only[Au]
    refine ⟨_,?_,k + 1,n,24,v,rfl,h,Ao ?_⟩
    ·omega
    simp only[go_sem,e,h,h.symm];first | exact rfl | exact ⟨rfl,rfl⟩ | trivial
  ·have:k=1:=by omega
   subst this;refine Ac 1 fun x O=>?_;simp only[go_sem,show (((1:Nat):Int) < ((1:Nat):Int))=False from eq_false (by decide)];refine t (Aa fun _ _=>Aj (Aq (G (Aa fun _ D=>Am fun w _ _ _ j M=>Af 3 j ?_))));simp only[go_sem,o];refine Ak j (abd _ _) ?_;refine AG j rfl rfl rfl rfl rfl es23 sz25 by25 ze25 rfl (by decide) ?_;simp only[go_sem,o.symm];first | refine ⟨⟨by omega,by omega⟩,?_⟩ | skip
   refine Ti ⟨w,55,0⟩ ?_;simp only[go_sem];refine AA j rfl rfl rfl (MI [tT] (by simp) (fun _ S=>by rw[eg.1 S]; exact aca) _ _) (.cons (.inexact _ _) (.cons (.refl _) .nil)) ?_;refine Ad 1 j ?_;simp only[go_sem];refine M (D (Ah (Ag ?_)));simp only[go_sem];exact Co.refl _
theorem Kr {α:Type} (f:α→D) (L:List α) (z:D):(L.map f++[z])[L.length]?=some z:=by
 rw[eJ (by simp)];simp
theorem Ks {α:Type} (f:α→D) (L:List α) (z y:D):(L.map f++[z]).set L.length y=L.map f++[y]:=by
 rw[List.set_append_right _ _ (by simp)];simp
def E9 (e:Ex) (k:Nat):List Ty:=((AB e).take k).flatMap CN
theorem Yn (e:Ex) (k:Nat):(E9 e k).length≤(Bo e).length:=JY CN (AB e) k
theorem Gq (t:Ty):D.agg [.val (.string t.name),.sl false (t.args.map AC),.val (.int .i64 t.pos)]=AC t:=Wb t
set_option maxRecDepth 100000 in
theorem P2 (e:Ex) (he:okEx e) (hb:(Bo e).length≤400000) (g d:Nat):ACalls E 107 [AK e] [] g d (slTy (Bo e)) []:=by
 refine Ax 28 Tryz.call107 Tryz.func107 ?_;simp only[go_sem];refine Aa fun _ Z=>Ac 2 fun Y _=>?_;simp only[go_sem];refine Z (Aa fun _ a0=>Ac 1 fun c _=>?_);simp only[go_sem];refine a0 (Aa fun _ a1=>Aa fun _ a2=>Am fun _ _ _ _ K a5=>Af 1 K ?_);simp only[go_sem];refine AA K rfl rfl rfl (Ia e _ _) (.cons (Co.of_eq (by rw[El]; rfl)) .nil) ?_;refine Ad 0 K ?_;simp only[go_sem];refine a5 (a2 (Ai ?_));refine Di ⟨c,3,0⟩ 0 25 3 ?_;simp only[go_sem];intro B U;have H:B≠c:=Ar U 3 0 (by simp[go_sem]);have ab:B≠Y:=Ar U 1 0 (by simp[go_sem])
 refine Ho rfl rfl (by decide) ((AB e).map AK) (fun k σ=>∃ a i,a≠c∧∀ n o,Ab.get [(⟨c,3,0⟩,.box 23 [.own ⟨a,i,0⟩ (E9 e k).length]),(⟨a,i,0⟩,.arr 25 3 ((E9 e k).map AC))] n=some o→Ab.get σ n=some o) ⟨B,0,H,DE ?_⟩ (fun n I hY=>H0 e he n I hY) (fun k hk σ y _ R=>?_) (fun σ y=>?_)
 ·simp only[go_sem,H,H.symm,ab.symm,show E9 e 0=[] from rfl];try trivial
 ·have aa : k < (AB e).length:=by simpa using hk
  have ad:=Yn e (k + 1);have V:E9 e (k + 1)=E9 e k++CN (AB e)[k]:=Et CN aa;obtain ⟨a,i,q,O⟩:=y;refine Da (st':={ env:=[(7,AK (AB e)[k]),(3,.ptr ⟨c,3,0⟩ 0)],σ:=[(⟨c,3,0⟩,.box 23 [.own ⟨a,i,0⟩ (E9 e k).length]),(⟨a,i,0⟩,.arr 25 3 ((E9 e k).map AC))] }) ⟨CD ?_,O⟩ ?_
  ·simp only[go_sem,fY];try trivial
  generalize (AB e)[k]=X at *;generalize E9 e k=P at *;generalize s:P++X.targs=L;have ae:L.length≤(E9 e (k + 1)).length:=by rw[V,← s]; unfold CN; simp
  have v:P.length + X.targs.length=L.length:=by rw[← s,dQ]
  have w:P.map AC++X.targs.map AC=L.map AC:=by rw[← s,eC]
  have A:(L.length < L.length + 1)=True:=eq_true (by omega);have z:((0:Int)≤(L.length:Int))=True:=eq_true (by omega);rw[V] at R;refine Ac 2 fun m F=>?_;simp only[go_sem];refine R _ (fun _ j=>?_);refine Ai (Aa fun _ a3=>?_);have af:m≠c:=Ar F 3 0 (by simp[go_sem]);have J:m≠a:=Ar F i 0 (by simp[go_sem,q.symm]);have b:m≠c:=Ar F 3 0 (by simp[go_sem]);refine Am fun p S _ _ M a6=>Af 3 M ?_;simp only[go_sem,q,J.symm,b,b.symm];have ag:p≠a:=Ar S i 0 (by simp[go_sem,q.symm,J]);have f:p≠c:=Ar S 3 0 (by simp[go_sem,b])
  refine AG M rfl rfl rfl rfl rfl es23 sz25 by25 ze25 rfl (by decide) ?_;simp only[go_sem,q.symm,DM,J];first | refine ⟨⟨by omega,by omega⟩,?_⟩ | skip
  refine Ad 1 M ?_;simp only[go_sem,b,f];refine a6 (a3 (Aa fun _ C=>?_));by_cases t:X.kind=3
  ·have x:P++CN X=L++[X.type]:=by rw[← s]; unfold CN; rw[if_pos (.inl t)]; simp
   simp only[x] at j;refine Ac 8 fun Q T=>?_;simp only[go_sem,t,b.symm];refine C (Al ?_);refine Da (st':={ env:=[(3,.ptr ⟨c,3,0⟩ 0),(4,.ptr ⟨m,4,0⟩ 0)],σ:=[(⟨m,4,0⟩,.box 28 (exC X)),(⟨c,3,0⟩,.box 23 [.own ⟨p,11,0⟩ L.length]),(⟨p,11,0⟩,.arr 25 3 (L.map AC))] }) ⟨CD ?_,DE ?_⟩ ?_
   ·simp only[go_sem];try trivial
   ·simp only[go_sem,b,b.symm,f,f.symm];first | exact ⟨t.symm,v,w⟩ | exact ⟨u.symm,v,w⟩
   refine Ou 5 (by kernel_rfl) (by kernel_rfl) rfl #[true,true,true,true,true,false,false,false,false] (by kernel_rfl) (fun l G ac W N D=>?_);have r:l≠c:=Ar G 3 0 (by simp[go_sem]);refine Ap 5 N ?_;simp only[go_sem,b,b.symm,f];refine D _ ?_;refine CW 5 (by kernel_rfl) (by kernel_rfl) ?_;refine Qr rfl rfl rfl rfl rfl rfl rfl es23 sz25 by25 ze25 rfl (by decide) ?_;simp only[go_sem,f.symm];first | refine ⟨⟨by omega,by omega⟩,?_⟩ | skip
   refine Hb 6 8 (by kernel_rfl) (by kernel_rfl) ?_ ?_
   ·refine BL rfl rfl rfl ?_;simp only[go_sem,A,z];refine Hb 7 8 (by kernel_rfl) (by kernel_rfl) ?_ ?_
    ·refine BL rfl rfl rfl ?_;simp only[go_sem,Kr,Ks];refine CW 8 (by kernel_rfl) (by kernel_rfl) ?_;refine BL rfl rfl rfl ?_;simp only[go_sem,b];refine Es (by kernel_rfl) (by decide) ?_;refine j _ ?_;refine ⟨l,25,r,DE ?_⟩;simp only[go_sem,b];try exact ⟨rfl,Gq X.type⟩
    ·refine BL rfl rfl rfl ?_;simp only[go_sem,b];refine CW 7 (by kernel_rfl) (by kernel_rfl) ?_;refine BL rfl rfl rfl ?_;simp only[go_sem,Kr,Ks];refine Es (by kernel_rfl) (by decide) ?_;refine j _ ?_;refine ⟨l,25,r,DE ?_⟩;simp only[go_sem,b];try exact ⟨rfl,Gq X.type⟩
   ·refine BL rfl rfl rfl ?_;simp only[go_sem,b];refine CW 6 (by kernel_rfl) (by kernel_rfl) ?_;refine BL rfl rfl rfl ?_;simp only[go_sem,A,z];refine CW 7 (by kernel_rfl) (by kernel_rfl) ?_;refine BL rfl rfl rfl ?_;simp only[go_sem,Kr,Ks];refine Es (by kernel_rfl) (by decide) ?_;refine j _ ?_;refine ⟨l,25,r,DE ?_⟩;simp only[go_sem,b];try exact ⟨rfl,Gq X.type⟩
  ·by_cases u:X.kind=5
   ·have x:P++CN X=L++[X.type]:=by rw[← s]; unfold CN; rw[if_pos (.inr u)]; simp
    simp only[x] at j;refine Ac 8 fun Q T=>?_;simp only[go_sem,u,b.symm];refine C (Al ?_);refine Da (st':={ env:=[(3,.ptr ⟨c,3,0⟩ 0),(4,.ptr ⟨m,4,0⟩ 0)],σ:=[(⟨m,4,0⟩,.box 28 (exC X)),(⟨c,3,0⟩,.box 23 [.own ⟨p,11,0⟩ L.length]),(⟨p,11,0⟩,.arr 25 3 (L.map AC))] }) ⟨CD ?_,DE ?_⟩ ?_
    ·simp only[go_sem];try trivial
    ·simp only[go_sem,b,b.symm,f,f.symm];first | exact ⟨t.symm,v,w⟩ | exact ⟨u.symm,v,w⟩
    refine Ou 5 (by kernel_rfl) (by kernel_rfl) rfl #[true,true,true,true,true,false,false,false,false] (by kernel_rfl) (fun l G ac W N D=>?_);have r:l≠c:=Ar G 3 0 (by simp[go_sem]);refine Ap 5 N ?_;simp only[go_sem,b,b.symm,f];refine D _ ?_;refine CW 5 (by kernel_rfl) (by kernel_rfl) ?_;refine Qr rfl rfl rfl rfl rfl rfl rfl es23 sz25 by25 ze25 rfl (by decide) ?_;simp only[go_sem,f.symm];first | refine ⟨⟨by omega,by omega⟩,?_⟩ | skip
    refine Hb 6 8 (by kernel_rfl) (by kernel_rfl) ?_ ?_
    ·refine BL rfl rfl rfl ?_;simp only[go_sem,A,z];refine Hb 7 8 (by kernel_rfl) (by kernel_rfl) ?_ ?_
     ·refine BL rfl rfl rfl ?_;simp only[go_sem,Kr,Ks];refine CW 8 (by kernel_rfl) (by kernel_rfl) ?_;refine BL rfl rfl rfl ?_;simp only[go_sem,b];refine Es (by kernel_rfl) (by decide) ?_;refine j _ ?_;refine ⟨l,25,r,DE ?_⟩;simp only[go_sem,b];try exact ⟨rfl,Gq X.type⟩
     ·refine BL rfl rfl rfl ?_;simp only[go_sem,b];refine CW 7 (by kernel_rfl) (by kernel_rfl) ?_;refine BL rfl rfl rfl ?_;simp only[go_sem,Kr,Ks];refine Es (by kernel_rfl) (by decide) ?_;refine j _ ?_;refine ⟨l,25,r,DE ?_⟩;simp only[go_sem,b];try exact ⟨rfl,Gq X.type⟩
    ·refine BL rfl rfl rfl ?_;simp only[go_sem,b];refine CW 6 (by kernel_rfl) (by kernel_rfl) ?_;refine BL rfl rfl rfl ?_;simp only[go_sem,A,z];refine CW 7 (by kernel_rfl) (by kernel_rfl) ?_;refine BL rfl rfl rfl ?_;simp only[go_sem,Kr,Ks];refine Es (by kernel_rfl) (by decide) ?_;refine j _ ?_;refine ⟨l,25,r,DE ?_⟩;simp only[go_sem,b];try exact ⟨rfl,Gq X.type⟩
   ·have x:P++CN X=L:=by rw[← s]; unfold CN; rw[if_neg (by rintro (h | h) <;> contradiction)]; simp
    simp only[x] at j;refine Ac 8 fun Q T=>?_;simp only[go_sem,t,u,b.symm];refine C (Aj (Ae (j _ ?_)));refine ⟨p,11,f,DE ?_⟩;simp only[go_sem,b,f,f.symm];exact ⟨v,w⟩
 ·have a8:E9 e ((AB e).map AK).length=Bo e:=by unfold E9 Bo; rw[ei,eo]
  rw[a8] at y;obtain ⟨a,i,q,O⟩:=y;refine a1 (Aa fun _ a4=>?_);refine Da (st':={ env:=[(3,.ptr ⟨c,3,0⟩ 0)],σ:=[(⟨c,3,0⟩,.box 23 [.own ⟨a,i,0⟩ (Bo e).length]),(⟨a,i,0⟩,.arr 25 3 ((Bo e).map AC))] }) ⟨CD ?_,O⟩ ?_
  ·simp only[go_sem];try trivial
  refine Ac 2 fun _ _=>?_;simp only[go_sem,q];refine a4 (Ah ?_);refine AY ⟨a,i,0⟩ ?_;simp only[go_sem,q.symm];refine Ag ?_;simp only[go_sem];exact Co.refl _
end Go.Proofs.T
