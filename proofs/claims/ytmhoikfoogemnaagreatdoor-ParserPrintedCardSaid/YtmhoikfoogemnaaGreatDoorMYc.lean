import Derived.Test.YtmhoikfoogemnaaGreatDoorMEa
import Derived.Test.YtmhoikfoogemnaaGreatDoorMWa
import Derived.Test.YtmhoikfoogemnaaGreatDoorMWj
namespace Go.Proofs.YtmhoikfoogemnaaGreatDoor
open Go Go.RowKit Go.Vc
set_option linter.unusedVariables false
set_option linter.unusedSimpArgs false
end Go.Proofs.YtmhoikfoogemnaaGreatDoor
namespace Go.Proofs.YtmhoikfoogemnaaGreatDoor
open Go Go.RowKit Go.Vc
set_option linter.unusedVariables false
set_option linter.unusedSimpArgs false
def tm (s:List UInt8) (c:Int):ay:=if s=[]then⟨c,[]⟩else if c=0 then⟨0,[]⟩else⟨0,[⟨s,c⟩]⟩
structure LinI (l:ay) (n:Nat):Prop where
 ok:d8 l
 wf:Wf l
 len:l.L.length≤n
theorem R0:jS 0:=⟨by omega,by omega⟩
theorem LinI.const {k:Int} (h:jS k) (n:Nat):LinI ⟨k,[]⟩ n:=⟨⟨by intro m hm;simp at hm,List.Pairwise.nil⟩,⟨h,by intro m hm;simp at hm,by simp⟩,by simp⟩
theorem vu {s:List UInt8} (h:cp s=true):s≠[]:=by rintro rfl;simp[cp]at h
theorem LinI.one {s:List UInt8} {c:Int} (h:cp s=true) (hc:jS c) (h0:c≠0):LinI ⟨0,[⟨s,c⟩]⟩ 1:=
 ⟨⟨by intro m hm;rw[List.mem_singleton.1 hm];exact⟨h,h0⟩,List.pairwise_singleton _ _⟩,⟨R0,by intro m hm;rw[List.mem_singleton.1 hm];exact hc,by simp⟩,by simp⟩
theorem FZ {s:List UInt8} (h:cp s=true):nF s=some ⟨0,[⟨s,1⟩]⟩∧ub s=some ⟨0,[⟨s,1⟩]⟩:=by
 unfold nF ub
 rw[rn,lE,h];exact⟨rfl,rfl⟩
theorem si {l:ay} {n:Nat} (h:LinI l n) (hn:n≤1000000):fW l=some 0:=by
 obtain⟨b,b0,_,b2⟩:=kZ l (by have:=h.len;omega)
 unfold fW
 rw[b2,b0.2 h.ok];rfl
theorem A6 {s:List UInt8} {c:Int} (h:cp s=true) (hc:jS c):jG ⟨0,[⟨s,1⟩]⟩ c=some (tm s c,0)∧oL ⟨0,[⟨s,1⟩]⟩ c=some (tm s c,0):=by
 have hI:=LinI.one (c:=1) h ⟨by omega,by omega⟩ (by omega)
 have hne:=vu h
 by_cases h0:c=0
 ·subst h0
  obtain⟨b,b0,b1,b2⟩:=kZ ⟨0,[⟨s,1⟩]⟩ (by simp)
  unfold jG oL tm
  rw[b1,if_pos (b0.2 hI.ok),si hI (by omega),if_neg hne]
  exact⟨rfl,rfl⟩
 ·have et:tm s c=⟨0,[⟨s,c⟩]⟩:=by unfold tm;rw[if_neg hne,if_neg h0]
  refine⟨?_,?_⟩
  ·obtain⟨r,h1,h2⟩:=F0 _ c hI.ok hI.wf hc h0 (by simp)
   rw[h1,et]
   rcases h2 with⟨rfl,_,_⟩ | ⟨_,h2⟩
   ·simp[K3]
   ·exact absurd ⟨by simpa using R0,by intro m hm;rw[List.mem_singleton.1 hm];simpa using hc⟩ h2
  ·unfold oL
   rw[si hI (by omega),Option.bind_some,if_neg (by simp),if_neg (by simpa using h0),wF R0 hc,Int.zero_mul,if_pos R0,Option.bind_some,if_neg (by simp)]
   obtain⟨g,hg⟩:∃ g,fu=g+1+1:=⟨fu - 2,by unfold fu;omega⟩
   rw[hg]
   simp only[mJ]
   rw[if_pos (by simp)]
   show(some (⟨s,1⟩:aw)).bind _ =_
   rw[Option.bind_some]
   show(mn 1 c).bind _ =_
   rw[wF ⟨by omega,by omega⟩ hc,Int.one_mul,if_pos hc,Option.bind_some,if_neg (by simp)]
   show(some (⟨s,1⟩:aw)).bind _ =_
   rw[Option.bind_some,bf (by simp),Option.bind_some,show au (0+1)=1 from rfl,if_neg (by simp),et]
   rfl
end Go.Proofs.YtmhoikfoogemnaaGreatDoor
namespace Go.Proofs.YtmhoikfoogemnaaGreatDoor
open Go Go.RowKit Go.Vc
set_option linter.unusedVariables false
set_option linter.unusedSimpArgs false
abbrev PR:=aa
abbrev RS:=rh
abbrev Tk:=Int×List UInt8
def tk (t:aU):Tk:=(t.Kind,t.Text)
structure Cx where
 L:List aU
 o:Nat
section
variable {L:Cx}
end
structure Rok (L:Cx) (r:PR):Prop where
 sm:(L.o=0∧L.L.map tk=r.l.map tk)∨(L.o=1∧L.L.map tk=(3,[40])::(r.l.map tk++[(3,[41])]))
 a0:0≤r.at_
 a1:r.at_≤r.l.length
 ll:r.l.length≤50000
 tl:∀ t∈r.l,t.Text.length≤50000
 d0:0≤r.deep
 d1:r.deep≤160
def A8 (r:PR) (k:Nat):Option aU:=r.l[r.at_.toNat+k]?
def Jn (o:Option aU) (kind:Int) (s:List UInt8):Bool:=match o with | some t=>decide (t.Kind=kind)&&decide (t.Text=s) | none=>false
abbrev wP (r:PR) (kind:Int) (s:List UInt8):Bool:=Jn (A8 r 0) kind s
def oh (r:PR):PR:=⟨r.l,r.at_+1,r.deep⟩
section
variable {r:PR} {L:Cx}
theorem Rok.wi1 (h:Rok L r):au (r.at_+1)=r.at_+1:=by have:=h.a0;have:=h.a1;have:=h.ll;exact wi ⟨by omega,by omega⟩
theorem Rok.wi0 (h:Rok L r):au ((r.at_+1) - 1)=r.at_:=by have:=h.a0;have:=h.a1;have:=h.ll;rw[show r.at_+1 - 1=r.at_ by omega];exact wi ⟨by omega,by omega⟩
theorem Rok.lat_ (h:Rok L r):lat r.l r.at_=A8 r 0:=by unfold lat A8;rw[if_pos h.a0];rfl
theorem Rok.end_ (h:Rok L r):(A8 r 0=none∧r.at_=r.l.length∧decide (r.at_<(r.l.length:Int))=false∧decide ((r.l.length:Int)≤r.at_)=true)∨∃ t,A8 r 0=some t∧r.at_<r.l.length∧decide (r.at_<(r.l.length:Int))=true∧decide ((r.l.length:Int)≤r.at_)=false:=by
 have h0:=h.a0
 have h1:=h.a1
 by_cases c:r.at_<r.l.length
 ·right
  obtain⟨t,ht⟩:=bZ (l:=r.l) (i:=r.at_.toNat) (by omega)
  exact⟨t,ht,c,decide_eq_true c,decide_eq_false (by omega)⟩
 ·left
  exact⟨List.getElem?_eq_none (by omega),by omega,decide_eq_false c,decide_eq_true (by omega)⟩
theorem qd (h:Rok L r) (k:Int) (s:List UInt8):bB r k s=some (wP r k s):=by
 unfold bB wP
 rw[h.lat_]
 rcases h.end_ with⟨e,_,e2,_⟩ | ⟨t,e,_,e2,_⟩
 ·rw[e,e2];rfl
 ·rw[e,e2]
  simp only[gd,if_true,Option.bind_some,Bool.true_and,Jn]
  by_cases c:t.Kind=k<;>simp[c]
theorem vn (h:Rok L r) (s:List UInt8):aq r s=some (if wP r 3 s=true then(true,oh r)else(false,r)):=by
 unfold aq
 rw[qd h,Option.bind_some,h.wi1]
 split<;>rfl
def D9 (r:PR):Bool:=match A8 r 0 with | some t=>decide (t.Kind=1)&&cp t.Text | none=>false
def K4 (r:PR):Bool:=match A8 r 0 with | some t=>decide (t.Kind=2)&&BW t.Text | none=>false
theorem Rok.txt_le (h:Rok L r) {t:aU} (e:A8 r 0=some t):t.Text.length<4611686018427387904:=by
 have:=h.tl t (List.mem_of_getElem? e);omega
theorem vm (h:Rok L r):cA r=some (D9 r):=by
 unfold cA D9
 rw[h.lat_]
 rcases h.end_ with⟨e,_,e2,_⟩ | ⟨t,e,_,e2,_⟩
 ·rw[e,e2];rfl
 ·rw[e,e2]
  simp only[gd,if_true,Option.bind_some,Bool.true_and]
  by_cases c:t.Kind=1
  ·simp[c,xS t.Text (h.txt_le e)]
  ·simp[c]
theorem Bu (h:Rok L r):eN r=some (K4 r):=by
 unfold eN K4
 rw[h.lat_]
 rcases h.end_ with⟨e,_,e2,_⟩ | ⟨t,e,_,e2,_⟩
 ·rw[e,e2];rfl
 ·rw[e,e2]
  simp only[gd,if_true,Option.bind_some,Bool.true_and]
  by_cases c:t.Kind=2
  ·simp[c,vk t.Text (h.txt_le e)]
  ·simp[c]
end
section
variable {L:Cx}
def Fl (a e:Int) {β:Type} (m:Option (β×RS)):Prop:=∃ y s,m=some (y,s)∧s.E=e∧s.Pos=a∧e≠0
end
end Go.Proofs.YtmhoikfoogemnaaGreatDoor
namespace Go.Proofs.YtmhoikfoogemnaaGreatDoor
open Go Go.RowKit Go.Vc
set_option linter.unusedVariables false
set_option linter.unusedSimpArgs false
variable {L:Cx}
end Go.Proofs.YtmhoikfoogemnaaGreatDoor
namespace Go.Proofs.YtmhoikfoogemnaaGreatDoor
open Go Go.RowKit Go.Vc
set_option linter.unusedVariables false
set_option linter.unusedSimpArgs false
def nM (n:Int):List UInt8:=if n=1 then[102,108,111,111,114]else if n=2 then[99,101,105,108]else if n=3 then[122,101,114,111]else[101,118,101,110]
def o4 (n:Int):List UInt8:=if n=2 then[119,114,97,112]else[115,97,116]
def Cu (t:aM):List UInt8:=
 if ol t=true then
  if t.Kind=1 then[102,114,97,99]
  else if t.Kind=3 then[105,110,116]
  else[102,105,120,40]++(Lib.itoa t.Bits++([44,32]++(Lib.itoa t.Frac++([44,32]++(nM t.Round++([44,32]++(o4 t.Over++[41])))))))
 else[]
theorem xL (n:Int):(nM n).length≤5:=by unfold nM;split<;>(try split)<;>(try split)<;>simp
theorem DC (n:Int):(o4 n).length≤4:=by unfold o4;split<;>simp
theorem DL {α:Type} {a b:List α} {c:Option (List α)} (h:a.length+b.length≤4294967296) (k:List α→Option (List α)) (he:k (a++b)=c):(cF a b).bind k=c:=by rw[bf h,Option.bind_some,he]
theorem Ct (t:aM):(Cu t).length≤60:=by
 unfold Cu
 split
 ·rename_i ht
  by_cases h1:t.Kind=1
  ·simp[h1]
  by_cases h3:t.Kind=3
  ·simp[h3]
  have h2:t.Kind=2:=by rcases qk ht with k | k | k;exact absurd k h1;exact k;exact absurd k h3
  obtain⟨q1,q2,q3,q4,q5⟩:=ou ht h2
  have l1:=j0 (n:=t.Bits) ⟨by omega,by omega⟩
  have l2:=j0 (n:=t.Frac) ⟨by omega,by omega⟩
  have l3:=xL t.Round
  have l4:=DC t.Over
  simp only[h1,h3,if_false,List.length_append,List.length_cons,List.length_nil]
  omega
 ·simp
end Go.Proofs.YtmhoikfoogemnaaGreatDoor
namespace Go.Proofs.YtmhoikfoogemnaaGreatDoor
open Go Go.RowKit Go.Vc
set_option linter.unusedVariables false
set_option linter.unusedSimpArgs false
theorem EP {n:Int} (h:jS n):jL n=some (n.natAbs:Int):=by
 have:=tt h
 unfold fw at this
 unfold jL
 rw[this]
 refine congrArg some ?_
 split<;>omega
theorem HX:∀ (k u:Nat),u<10 ^ (k+1)→(Lib.decDigits u).length≤k+1
 | 0,u,h=>by rw[gr (by omega)];simp
 | k+1,u,h=>by
  by_cases hu:u<10
  ·rw[gr hu];simp
  ·rw[qA hu,List.length_append]
   have:=HX k (u / 10) (by rw[Nat.pow_succ]at h;omega)
   simp only[List.length_cons,List.length_nil];omega
theorem uj {u:Nat} (h:u<18446744073709551616):(Lib.decDigits u).length≤20:=HX 19 u (by omega)
theorem HW (u:Nat):Lib.decDigits u≠[]:=(ja u).2.2.1
theorem Dx (d:Nat) (h:d<10):tR [H5 (ei (48+(d:Int)))]=[UInt8.ofNat (48+d)]:=by
 rw[wu (p:=48+(d:Int)) ⟨by omega,by omega⟩]
 have:∀ d:Fin 10,tR [H5 (48+((d.val:Nat):Int))]=[UInt8.ofNat (48+d.val)]:=by decide
 exact this ⟨d,h⟩
theorem sR:∀ (f:Nat) (u:Nat) (s:List UInt8),u<f→u<18446744073709551616→(Lib.decDigits u).length+s.length≤4294967296→fv f (u:Int) s=some (Lib.decDigits u++s)
 | 0,_,_,h,_,_=>absurd h (by omega)
 | f+1,u,s,hf,hu,hl=>by
  have e1:Int.tmod (u:Int) 10=((u % 10:Nat):Int):=by rw[Int.tmod_eq_emod_of_nonneg (by omega)];rfl
  have e2:Int.tdiv (u:Int) 10=((u / 10:Nat):Int):=by rw[Int.tdiv_eq_ediv_of_nonneg (by omega)];rfl
  simp only[fv]
  rw[e1,e2,Dx _ (by omega),wu (p:=((u / 10:Nat):Int)) ⟨by omega,by omega⟩]
  have h1:1+s.length≤4294967296:=by
   have:=HW u
   have:0<(Lib.decDigits u).length:=List.length_pos_iff.2 this
   omega
  rw[bf (by simpa[Nat.add_comm]using h1),Option.bind_some]
  by_cases h:u<10
  ·rw[show u / 10=0 by omega,gr h,show u % 10=u by omega];rfl
  ·rw[if_neg (by simp;omega)]
   rw[qA h]at hl ⊢
   simp only[List.length_append,List.length_cons,List.length_nil]at hl
   rw[sR f (u / 10) _ (by omega) (by omega) (by simp only[List.length_append,List.length_cons,List.length_nil];omega)]
   simp
theorem AF {u:Nat} (h:u<18446744073709551616):jr (u:Int)=some (Lib.decDigits u):=by
 have:=uj h
 unfold jr
 rw[sR fu u [] (by unfold fu;omega) h (by simp only[List.length_nil];omega)];simp
def qN (c:Int) (nm:List UInt8):List UInt8:=if nm=[]then Lib.decDigits c.natAbs else if c.natAbs=1 then nm else Lib.decDigits c.natAbs++42::nm
def Bl (s:List UInt8) (c:Int):List UInt8:=if s=[]then(if c<0 then[45]else[])else(if c<0 then[32,45,32]else[32,43,32])
def rT (s:List UInt8) (c:Int) (nm:List UInt8):List UInt8:=s++(Bl s c++qN c nm)
theorem A5 {n:Int} (h:jS n):n.natAbs<18446744073709551616:=by obtain⟨h1,h2⟩:=h;omega
theorem D5 {c:Int} (hc:jS c) (nm:List UInt8):(qN c nm).length≤21+nm.length:=by
 have:=uj (A5 hc)
 unfold qN
 split
 ·omega
 ·split
  ·omega
  ·simp only[List.length_append,List.length_cons];omega
theorem ER (s:List UInt8) (c:Int):(Bl s c).length≤3:=by unfold Bl;split<;>split<;>simp
theorem AZ {c:Int} (hc:jS c) (s nm:List UInt8):(rT s c nm).length≤s.length+24+nm.length:=by
 have:=D5 hc nm;have:=ER s c
 unfold rT;simp only[List.length_append];omega
theorem FR {c:Int} (nm:List UInt8):qN c nm≠[]:=by
 unfold qN
 split
 ·exact HW _
 ·split
  ·assumption
  ·simp
theorem Hh {c:Int} (s nm:List UInt8):rT s c nm≠[]:=by
 unfold rT;simp[FR]
theorem EB (s:List UInt8) (c:Int) (t:List UInt8) (hl:s.length+t.length+3≤4294967296):kU s (decide (c<0)) t=some (s++(Bl s c++t)):=by
 unfold kU Bl
 by_cases hs:s=[]
 ·subst hs
  by_cases h0:c<0
  ·simp only[h0,decide_true,Bool.and_self,if_true]
   rw[bf (by simp only[List.length_cons,List.length_nil];omega)];rfl
  ·simp[h0]
 ·by_cases h0:c<0
  ·simp only[h0,hs,decide_true,decide_false,Bool.false_and,Bool.false_eq_true,if_false,if_true]
   rw[bf (by simp only[List.length_cons,List.length_nil];omega),Option.bind_some,bf (by simp only[List.length_append,List.length_cons,List.length_nil];omega)]
   simp
  ·simp only[h0,hs,decide_false,Bool.and_false,Bool.false_eq_true,if_false]
   rw[bf (by simp only[List.length_cons,List.length_nil];omega),Option.bind_some,bf (by simp only[List.length_append,List.length_cons,List.length_nil];omega)]
   simp
instance (l:ay):Decidable (d8 l):=by unfold d8;infer_instance
def m7 (l:List aw) (s:List UInt8):List UInt8:=l.foldl (fun s m=>rT s m.By m.Name) s
def BG (l:ay):List UInt8:=if l.K≠0∨l.L=[]then rT (m7 l.L []) l.K []else m7 l.L []
def nP (l:ay):List UInt8:=if d8 l then BG l else[]
theorem pK {l:ay} (hl:l.L.length<4611686018427387904):gm l=some (if d8 l then 0 else 1)∧eg l=some (decide (d8 l)):=by
 obtain⟨b,h1,h2,h3⟩:=kZ l hl
 by_cases h:d8 l
 ·have hb:=h1.2 h;subst hb;exact⟨by rw[h2,if_pos rfl,if_pos h],by rw[h3,decide_eq_true h]⟩
 ·have hb:b=false:=by cases b;rfl;exact absurd (h1.1 rfl) h
  subst hb;exact⟨by rw[h2,if_neg h];rfl,by rw[h3,decide_eq_false h]⟩
theorem mG {s:List UInt8} (h:cp s=true):s≠[]∧s.length≤16:=by
 unfold cp at h
 simp only[Bool.and_eq_true,decide_eq_true_eq]at h
 exact h.1.1.1
theorem xV (l:List aw) (h:∀ m∈l,m.Name.length≤16∧jS m.By):∀ s,(m7 l s).length≤s.length+40 * l.length:=by
 induction l with
 | nil=>intro s;simp[m7]
 | cons m l ih=>
  intro s
  have h1:=AZ (h m (by simp)).2 s m.Name
  have h2:=(h m (by simp)).1
  have h3:=ih (fun x hx=>h x (by simp[hx])) (rT s m.By m.Name)
  show(m7 l (rT s m.By m.Name)).length≤ _
  simp only[List.length_cons];omega
theorem BQ (l:List aw) (m:aw) (s:List UInt8):m7 (l++[m]) s=rT (m7 l s) m.By m.Name:=by unfold m7;rw[List.foldl_append];rfl
theorem Ap {l:ay} (ho:d8 l) (hr:∀ m∈l.L,jS m.By) (hk:jS l.K):(BG l).length≤40 * l.L.length+24:=by
 have h1:=xV l.L (fun m hm=>⟨(mG (ho.1 m hm).1).2,hr m hm⟩) []
 have h2:=AZ hk (m7 l.L []) []
 simp only[List.length_nil]at h1 h2
 unfold BG
 split<;>omega
theorem nv {l:ay} (hr:∀ m∈l.L,jS m.By) (hk:jS l.K) (hl:l.L.length<90000000):ik l=some (nP l):=by
 unfold ik fW nP
 rw[(pK (by omega)).2,Option.bind_some]
 by_cases ho:d8 l
 rotate_left
 ·rw[decide_eq_false ho,if_neg ho];rfl
 rw[decide_eq_true ho,if_pos ho]
 simp only[Bool.not_true,Bool.false_eq_true,if_false,Option.bind_some,decide_true]
 have hb:∀ i,(m7 (l.L.take i) []).length≤40 * l.L.length:=fun i=>by
  have h1:=xV (l.L.take i) (fun m hm=>⟨(mG (ho.1 m (List.mem_of_mem_take hm)).1).2,hr m (List.mem_of_mem_take hm)⟩) []
  rw[List.length_take]at h1
  simp only[List.length_nil]at h1;omega
 refine i7 (L:=fun f s i=>bY l f s i) (n:=l.L.length) (by omega) (fun i s=>s=m7 (l.L.take i) []) ?_ ?_ [] (by simp[m7])
 ·rintro f i s hi rfl
  obtain⟨m,hm⟩:=bZ hi
  have hmem:=List.mem_of_getElem? hm
  left
  refine⟨rT (m7 (l.L.take i) []) m.By m.Name,by rw[bT hm,BQ],?_⟩
  have hbi:=hb i
  obtain⟨hn0,hn⟩:=mG (ho.1 m hmem).1
  have h20:=uj (A5 (hr m hmem))
  have j2:∀ t,t.length≤40→gw (m7 (l.L.take i) []) m (bY l f) (i:Int) t=bY l f (m7 (l.L.take i) []++(Bl (m7 (l.L.take i) []) m.By++t)) ((i+1:Nat):Int):=fun t ht=>by
   unfold gw
   rw[EB _ _ _ (by omega),Option.bind_some,ni (by omega)]
  simp only[bY]
  rw[if_pos (bX hi),bS hm,Option.bind_some,Option.bind_some,EP (hr m hmem),Option.bind_some]
  unfold rT qN
  rw[if_neg hn0]
  by_cases h1:m.By.natAbs=1
  ·rw[if_neg (by simp[h1]),if_pos h1,j2 _ (by omega)]
  ·rw[if_pos (by simp;omega),if_neg h1,Option.bind_some,AF (A5 (hr m hmem)),Option.bind_some,bf (by simp only[List.length_cons,List.length_nil];omega),Option.bind_some,bf (by simp only[List.length_append,List.length_cons,List.length_nil];omega),Option.bind_some,j2 _ (by simp only[List.length_append,List.length_cons,List.length_nil];omega)]
   simp
 ·rintro f s rfl
  have:=hb l.L.length
  have h20:=uj (A5 hk)
  rw[List.take_length]at this ⊢
  simp only[bY]
  rw[if_neg (by simp)]
  unfold kg BG
  by_cases hK:l.K≠0∨l.L=[]
  ·rw[if_pos (by rcases hK with h | h<;>simp[h]),if_pos hK,EP hk,Option.bind_some,AF (A5 hk),Option.bind_some,EB _ _ _ (by omega)]
   simp[rT,qN]
  ·rw[if_neg hK,if_neg]
   intro h;apply hK
   simpa using h
end Go.Proofs.YtmhoikfoogemnaaGreatDoor
