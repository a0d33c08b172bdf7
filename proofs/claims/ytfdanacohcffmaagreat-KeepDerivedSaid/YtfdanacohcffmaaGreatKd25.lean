/- Parts of the proof. Conditions: none. -/
import Derived.Test.YtfdanacohcffmaaGreatKd2
import Derived.Test.YtfdanacohcffmaaGreatKd10
import Derived.Test.YtfdanacohcffmaaGreatKd15
import Derived.Test.YtfdanacohcffmaaGreatKd18
set_option linter.unusedSimpArgs false
set_option linter.unusedVariables false
namespace Go.AM
open List Nat Bool Option
open Go Go.Proofs
noncomputable section
variable {h h':Heap} {K:Out->Heap->Bool} {i b ck k sz:Nat} {α:Type} {es:List Entry} {a:AV} {d:List Int} {l:List b8} {m:eP} {n v:Int} {s:b8}
def nB(n:Int):Bool:=(decide (97<=n)&&decide (n<=122))||(decide (65<=n)&&decide (n<=90))
def ya(n:Int):Bool:=decide (48<=n)&&decide (n<=57)
def words:List b8:=[[97,110,100],[111,114],[110,111,116],[115,111,109,101],[97,108,108],[108,102,112],[112,102,112],[116,99],[101,120,105,115,116,115],[116,114,117,101],[102,97,108,115,101]]
def DT(s:b8):Bool:=words.any fun w=>s==w
theorem zi(hK:K (.ret (.bool (nB n))) h=true):Sem TP 180 [.int .u8 n] h K:=by
 refine F.z7 ?_;rw [F.By];simp only [r8,yU,an,cF];unfold nB at hK;by_cases h1:97<=n<;>by_cases h2:n<=122<;>by_cases h3:65<=n<;>by_cases h4:n<=90<;>simpa [h1,h2,h3,h4] using hK
theorem JF(hK:K (.ret (.bool (ya n))) h=true):Sem TP 182 [.int .u8 n] h K:=by
 refine F.Bz ?_;rw [F.Dj];simp only [r8,yU,an,cF];unfold ya at hK;by_cases h1:48<=n<;>by_cases h2:n<=57<;>simpa [h1,h2] using hK
theorem zj(hK:K (.ret (.bool (nB n))) h=true):Sem TP 150 [.int .u8 n] h K:=by
 refine F.z8 ?_;rw [F.BA];simp only [r8,yU,an,cF];unfold nB at hK;by_cases h1:97<=n<;>by_cases h2:n<=122<;>by_cases h3:65<=n<;>by_cases h4:n<=90<;>simpa [h1,h2,h3,h4] using hK
theorem JG(hK:K (.ret (.bool (ya n))) h=true):Sem TP 152 [.int .u8 n] h K:=by
 refine F.BB ?_;rw [F.Dl];simp only [r8,yU,an,cF];unfold ya at hK;by_cases h1:48<=n<;>by_cases h2:n<=57<;>simpa [h1,h2] using hK
theorem LS(hK:K (.ret (.bool (DT s))) h=true):Sem TP 181 [.str s] h K:=by
 refine F.Di ?_;rw [F.Ff];simp only [C9,an,cF];simp only [DT,words,any_cons,any_nil,Bool.or_false] at hK
 repeat (first|exact hK|(generalize (s==_)=b at hK ⊢;cases b<;>simp only [aL,aK,Bool.true_or,Bool.false_or] at hK ⊢<;>try exact hK))
theorem LU(hK:K (.ret (.bool (DT s))) h=true):Sem TP 151 [.str s] h K:=by
 refine F.Dk ?_;rw [F.Fg];simp only [C9,an,cF];simp only [DT,words,any_cons,any_nil,Bool.or_false] at hK
 repeat (first|exact hK|(generalize (s==_)=b at hK ⊢;cases b<;>simp only [aL,aK,Bool.true_or,Bool.false_or] at hK ⊢<;>try exact hK))
def okB(b:UInt8):Bool:=nB b.toNat||ya b.toNat
def ey(s:b8):Bool:=match s with
 |[]=>false
 |c :: _=>decide (s.length<=12)&&(nB c.toNat&&(!DT s&&s.all okB))
theorem jB{p:α->Bool}{l:List α}{a:α}(ha:l[i]?=some a)(ht:(l.take i).all p=true)(hp:p a=true):(l.take (i+1)).all p=true:=by
 rw [take_add_one,ha];simp [ht,hp]
theorem all_false{p:α->Bool}{l:List α}{a:α}(ha:l[i]?=some a)(hp:p a=false):l.all p=false:=by
 rw [eq_false_iff];intro h;rw [List.all_eq_true] at h;have:=h a (iz ha);rw [hp] at this;cases this
theorem eB{s:b8}{h:Heap}{K:Out->Heap->Bool}(hK:K (.ret (.bool (ey s))) h=true):Sem TP 153 [.str s] h K:=by
 refine F.Dg ?_;rw [F.Fc]
 cases s with
 |nil=>simpa [ey,oz,r7,ay,af] using hK
 |cons c s'=>
  have h0:(c :: s')[0]?=some c:=rfl;simp only [oz,r7,HF,an,cF];have h1:decide (((c :: s').length:Int)<1)=false:=by simp;omega
  simp only [h1,aK];by_cases h2:(c :: s').length<=12
  ·have h3:decide ((12:Int)<((c :: s').length:Int))=false:=by simp at h2 ⊢;omega
   simp only [h3,aK];rw [show lf (.str (c :: s')) (.int .i64 0)=some (.int .u8 (c.toNat:Int)) from Cq (i:=0) h0];simp only [an];refine ai (zi ?_);simp only [kY,pH,an,cF]
   cases hl:nB c.toNat with
   |false=>simpa [ey,hl] using hK
   |true=>
    simp only [Bool.not_true,aK];refine ai (LS ?_);simp only [kY,cF]
    cases hw:DT (c :: s') with
    |true=>simpa [ey,hl,hw] using hK
    |false=>
     simp only [aK];have hn:ey (c :: s')=(c :: s').all okB:=by simp only [ey,hl,hw,Bool.not_false,Bool.true_and];rw [fh h2,Bool.true_and]
     rw [hn] at hK;have h4:((c :: s').take 1).all okB=true:=by simp [okB,hl]
     have h5:1<=(c :: s').length:=(by simp);clear h0 h1 h3 hl hw hn;generalize (c :: s')=s at hK h2 h4 h5 ⊢;refine aD 1 s.length h5 (fun i e h'=>h'=h/\e 0 = .str s/\e 3 = .int .i64 (i:Int)/\(s.take i).all okB=true) ⟨rfl,rfl,rfl,h4⟩ ?_ ?_
     ·rintro i e h' _ hi ⟨rfl,e0,e3,ht⟩ K' hn hx hr hp;have hb:s[i]?=some s[i]:=ez hi;have hlt:decide ((i:Int)<(s.length:Int))=true:=by simp;omega
      rw [F.eB.aT];simp only [e0,e3,oz,r7,Cq hb,an,cF,hlt,aL];refine ai (zi ?_);simp only [kY,pH,an,cF]
      cases hl:nB s[i].toNat with
      |true=>
       simp only [Bool.not_true,aK,iX (a:=(i:Int)) (b:=1) (by omega) (by omega),an];exact hn _ _ ⟨rfl,e0,rfl,jB hb ht (by simp [okB,hl])⟩
      |false=>
       simp only [Bool.not_false,aL];refine ai (JF ?_);simp only [kY,pH,an,cF]
       cases hd:ya s[i].toNat with
       |true=>
        simp only [Bool.not_true,aK,iX (a:=(i:Int)) (b:=1) (by omega) (by omega),an];exact hn _ _ ⟨rfl,e0,rfl,jB hb ht (by simp [okB,hd])⟩
       |false=>
        simp only [Bool.not_false,aL];rw [hr,F.eB.bz];have:s.all okB=false:=all_false hb (by simp [okB,hl,hd]);rw [this] at hK;exact hK
     ·rintro e h' ⟨rfl,e0,e3,ht⟩ K' hx;have hlt:decide ((s.length:Int)<(s.length:Int))=false:=by simp
      rw [F.eB.aT];simp only [e0,e3,oz,r7,an,cF,hlt,aK];rw [hx,F.eB.aF];rw [jD (dK _)] at ht;rw [ht] at hK;exact hK
  ·have h3:decide ((12:Int)<((c :: s').length:Int))=true:=by simp at h2 ⊢;omega
   simp only [h3,aL];have:ey (c :: s')=false:=by simp only [ey];rw [eT h2];rfl
   rw [this] at hK;exact hK
theorem ei{s:b8}{h:Heap}{K:Out->Heap->Bool}(hK:K (.ret (.bool (ey s))) h=true):Sem TP 107 [.str s] h K:=by
 refine F.Dh ?_;rw [F.Fe]
 cases s with
 |nil=>simpa [ey,C9,ay,af] using hK
 |cons c s'=>
  have h0:(c :: s')[0]?=some c:=rfl;have h1:((c :: s')==([]:b8))=false:=rfl;simp only [oz,C9,HF,an,cF,h1,aK];by_cases h2:(c :: s').length<=12
  ·have h3:decide ((12:Int)<((c :: s').length:Int))=false:=by simp at h2 ⊢;omega
   simp only [h3,aK];rw [show lf (.str (c :: s')) (.int .i64 0)=some (.int .u8 (c.toNat:Int)) from Cq (i:=0) h0];simp only [an];refine ai (zj ?_);simp only [kY,pH,an,cF]
   cases hl:nB c.toNat with
   |false=>simpa [ey,hl] using hK
   |true=>
    simp only [Bool.not_true,aK];refine ai (LU ?_);simp only [kY,cF]
    cases hw:DT (c :: s') with
    |true=>simpa [ey,hl,hw] using hK
    |false=>
     simp only [aK,oz,an];have hn:ey (c :: s')=(c :: s').all okB:=by simp only [ey,hl,hw,Bool.not_false,Bool.true_and];rw [fh h2,Bool.true_and]
     rw [hn] at hK;have h4:((c :: s').take 1).all okB=true:=by simp [okB,hl]
     have h5:1<=(c :: s').length:=(by simp);clear h0 h1 h3 hl hw hn;generalize (c :: s')=s at hK h2 h4 h5 ⊢;refine aD 0 s.length (zero_le _) (fun i e h'=>h'=h/\e 0 = .str s/\e 23 = .int .i64 (i:Int)/\e 22 = .int .i64 (s.length:Int)/\(s.take i).all okB=true) ⟨rfl,rfl,rfl,rfl,rfl⟩ ?_ ?_
     ·rintro i e h' _ hi ⟨rfl,e0,e3,B2,ht⟩ K' hn hx hr hp;have hb:s[i]?=some s[i]:=ez hi;have hlt:decide ((i:Int)<(s.length:Int))=true:=by simp;omega
      rw [F.ei.aT];simp only [e0,e3,B2,oz,r7,Cq hb,an,cF,hlt,aL];refine ai (zj ?_);simp only [kY,pH,an,cF]
      cases hl:nB s[i].toNat with
      |true=>
       simp only [Bool.not_true,aK,iX (a:=(i:Int)) (b:=1) (by omega) (by omega),an];exact hn _ _ ⟨rfl,e0,rfl,B2,jB hb ht (by simp [okB,hl])⟩
      |false=>
       simp only [Bool.not_false,aL];refine ai (JG ?_);simp only [kY,pH,an,cF]
       cases hd:ya s[i].toNat with
       |true=>
        simp only [Bool.not_true,aK,iX (a:=(i:Int)) (b:=1) (by omega) (by omega),an];exact hn _ _ ⟨rfl,e0,rfl,B2,jB hb ht (by simp [okB,hd])⟩
       |false=>
        simp only [Bool.not_false,aL];rw [hr,F.ei.bz];have:s.all okB=false:=all_false hb (by simp [okB,hl,hd]);rw [this] at hK;exact hK
     ·rintro e h' ⟨rfl,e0,e3,B2,ht⟩ K' hx;have hlt:decide ((s.length:Int)<(s.length:Int))=false:=by simp
      rw [F.ei.aT];simp only [e0,e3,B2,oz,r7,an,cF,hlt,aK];rw [hx,F.ei.aF];rw [jD (dK _)] at ht;rw [ht] at hK;exact hK
  ·have h3:decide ((12:Int)<((c :: s').length:Int))=true:=by simp at h2 ⊢;omega
   simp only [h3,aL];have:ey (c :: s')=false:=by simp only [ey];rw [eT h2];rfl
   rw [this] at hK;exact hK
theorem iB{x:Sl Int}(hv:x.l[i]?=some v):ag none (.ef (x.l.flatMap encI) (i*1)) h=some (.int .i64 v):=by
 rw [xO nH hv];rfl
def iY(n:Int)(l:List Int):Bool:=l.all fun x=>!decide (x<0)&&!decide (n<=x)
def iv(n:Int):AV:=.int .i64 n
theorem sC(d:List Int):d.map iv=d.flatMap encI:=by
 induction d with
 |nil=>rfl
 |cons a d ih=>rw [map_cons,flatMap_cons,ih];rfl
theorem nK{n:Nat}{k:IntKind}(h:i<n):dN 1 (.slice b 0 n 1) (.int k (i:Int))=some (.ptr b i):=by simp [dN,asNat,h]
theorem oA(hb:h.get b=some (.cells (d.map iv)))(hv:d[i]?=some v):ag none (.ptr b i) h=some (.int .i64 v):=by
 rw [aj hb,vA,getElem?_map,hv];rfl
theorem zk(hb:h.get b=some (.cells (d.map iv)))(hi:i<d.length):bf 1 (.ptr b i) (.int .i64 v) h=some (h.set b (.cells ((d.set i v).map iv))):=by
 rw [cK (n:=1) hb rfl rfl (by simp;omega),map_set];rfl
theorem XI(n:Nat):jj [.int .i64 0] n=(replicate n (0:Int)).map iv:=by
 induction n with
 |zero=>rfl
 |succ n ih=>rw [jj,ih];rfl
theorem Cr{n:Nat}(hn:n<=1000000)(h:Heap):gr 1 8 [.int .i64 0] (.int .i64 (n:Int)) (.int .i64 (n:Int)) h=some (.slice h.next 0 n 1,h.alloc (.cells ((replicate n (0:Int)).map iv))):=by
 have:(8*(n:Int))<=140737488355328:=by omega
 simp [gr,zJ,this,XI]
theorem JH(hb:h.get b=some (.cells (d.map iv))):Fz true h (.slice b 0 d.length 1) (ak encI 1 (some d)):=by
 refine .slice b 0 d.length 1 _ _ hb (by rw [sC]) fun i x y hx hy=>?_;rw [sC,hy] at hx;cases hx;rw [<- sC,getElem?_map] at hy;obtain ⟨v,hv,rfl⟩:=map_eq_some_iff.1 hy;exact .scalar _ rfl
theorem QX(a b:Int):∃ v,aG .add (.int .i64 a) (.int .i64 b)=some (.int .i64 v):=⟨_,Nk a b⟩
def tN(n:Nat):List Int->Nat->Nat
 |[],r=>r
 |x :: l,r=>tN n l (r*n+x.toNat)
def kS(n:Nat)(l:List Int):Nat:=tN n l 0
inductive Own {α:Type} (enc:α->List AV) (sz k:Nat) (h:Heap):AV->List α->Prop
 |nil:Own enc sz k h .ax []
 |row (b:Nat) (l:List α):k<=b->b<h.next->h.get b=some (.cells (l.flatMap enc))->Own enc sz k h (.slice b 0 l.length sz) l
variable {α:Type} {enc:α->List AV} {sz k:Nat}
theorem Own.len{l:List α}(o:Own enc sz k h a l):bX .slice a h'=some (.int .i64 (l.length:Int)):=by
 cases o<;>rfl
theorem Own.ext{l:List α}(o:Own enc sz k h a l)(hx:bu h h'):Own enc sz k h' a l:=by
 cases o with
 |nil=>exact .nil
 |row b l h1 h2 h3=>exact .row b l h1 (Nat.lt_of_lt_of_le h2 hx.next) (by rw [hx.get b h2];exact h3)
theorem Own.get{l:List α}(o:Own enc sz k h a l)(he:∀ x,(enc x).length=sz){v:α}(hv:l[i]?=some v) :
  ∃ b,k<=b/\b<h.next/\(∀ q:IntKind,dN sz a (.int q (i:Int))=some (.ptr b (i*sz)))/\ag (some sz) (.ptr b (i*sz)) h=some (.agg (enc v))/\∀ m,m<sz->ag none (.ptr b (i*sz+m)) h=(enc v)[m]?:=by
 cases o with
 |nil=>simp at hv
 |row b l h1 h2 h3=>
  have hi:=(kT.1 hv).1;refine ⟨b,h1,h2,fun q=>by simp [dN,asNat,hi],?_,fun m hm=>by rw [aj h3,vA,qu he l i m v hv hm]⟩;rw [aj h3];have hp:=oy he l i v hv;simp only [ju]
  have hlen:i*sz+sz<=(l.flatMap enc).length:=by
   rw [gj he];have:(i+1)*sz<=l.length*sz:=mul_le_mul_right sz hi;rw [succ_mul] at this;exact this
  rw [if_pos (by simpa using hlen),hp]
section
variable {α:Type} {enc:α->List AV} {sz k:Nat}
structure Row (enc:α->List AV) (sz:Nat) (h:Heap) (x:AV) (l:List α):Prop where
 len:lD x=some l.length
 cells:gQ sz l.length x h=some (l.flatMap enc)
theorem Gp(he:∀ x,(enc x).length=sz):∀ (l:List α) (i:Nat),(l.flatMap enc).take (i*sz)=(l.take i).flatMap enc
 |[],i=>by simp
 |x :: l,0=>by simp
 |x :: l,i+1=>by
  rw [flatMap_cons,take_succ_cons,flatMap_cons,take_append,he,succ_mul,Nat.add_sub_cancel,Gp he l i,jD (by rw [he];omega)]
theorem Gq(he:∀ x,(enc x).length=sz):∀ (l:List α) (i:Nat),(l.flatMap enc).drop (i*sz)=(l.drop i).flatMap enc
 |[],i=>by simp
 |x :: l,0=>by simp
 |x :: l,i+1=>by
  rw [flatMap_cons,drop_succ_cons,drop_append,he,succ_mul,Nat.add_sub_cancel,Gq he l i,drop_of_length_le (by rw [he];omega),nil_append]
theorem Own.UJ{l:List α}(o:Own enc sz k h a l)(he:∀ x,(enc x).length=sz)(hi:i<=l.length) :
  ∃ x,(∀ q:IntKind,ja (some sz) a none (some (.int q (i:Int)))=some x)/\∀ h',bu h h'->Row enc sz h' x (l.take i):=by
 cases o with
 |nil=>simp at hi;subst hi;exact ⟨.ax,fun q=>by simp [ja,lD,qG,asNat],fun h' _=>⟨rfl,rfl⟩⟩
 |row b l h1 h2 h3=>
  refine ⟨.slice b 0 i sz,fun q=>by simp [ja,lD,qG,asNat,hi],fun h' hx=>⟨by simp [lD,Nat.min_eq_left hi],?_⟩⟩;have h3':h'.get b=some (.cells (l.flatMap enc)):=by rw [hx.get b h2];exact h3
  have hl:(l.flatMap enc).length=l.length*sz:=gj he l;have hm:(l.take i).length=i:=by rw [length_take,Nat.min_eq_left hi]
  simp only [gQ,h3',if_true,Nat.zero_add,hl,hm,drop_zero];rw [if_pos (mul_le_mul_right sz hi),Gp he]
theorem Own.UK{l:List α}(o:Own enc sz k h a l)(he:∀ x,(enc x).length=sz)(hi:i<=l.length) :
  ∃ x,(∀ q:IntKind,ja (some sz) a (some (.int q (i:Int))) none=some x)/\∀ h',bu h h'->Row enc sz h' x (l.drop i):=by
 cases o with
 |nil=>simp at hi;subst hi;exact ⟨.ax,fun q=>by simp [ja,lD,qG,asNat],fun h' _=>⟨rfl,rfl⟩⟩
 |row b l h1 h2 h3=>
  refine ⟨.slice b (i*sz) (l.length-i) sz,fun q=>by simp [ja,lD,qG,asNat,hi],fun h' hx=>⟨by simp [lD],?_⟩⟩;have h3':h'.get b=some (.cells (l.flatMap enc)):=by rw [hx.get b h2];exact h3
  have hl:(l.flatMap enc).length=l.length*sz:=gj he l;have hm:(l.drop i).length=l.length-i:=by rw [length_drop]
  simp only [gQ,h3',if_true,hl,hm];have hle:i*sz+(l.length-i)*sz<=l.length*sz:=by rw [<- Nat.add_mul];exact mul_le_mul_right sz (by omega)
  rw [if_pos hle,Gq he,jD];rw [gj he,hm];exact dK _
theorem uF(h1:∀ x,bx (enc x)=true):∀ l:List α,bx (l.flatMap enc)=true
 |[]=>rfl
 |x :: l=>by
  have app:∀ a b:List AV,bx a=true->bx b=true->bx (a++b)=true:=by
   intro a b ha hb
   induction a with
   |nil=>exact hb
   |cons y a ih=>
    simp only [bx,cons_append,and_eq_true] at ha ⊢;exact ⟨ha.1,ih ha.2⟩
  rw [flatMap_cons];exact app _ _ (h1 x) (uF h1 l)
def cL:AV->Option Nat
 |.slice b _ _ _=>some b
 |_=>none
theorem Own.append{x:AV}{l m:List α}(o:Own enc sz k h a l)(he:∀ x,(enc x).length=sz)(h1:∀ x,bx (enc x)=true)(r:Row enc sz h x m)(hk:k<=h.next){bytes:Nat}(hroom:(l.length+m.length)*bytes<=cG) :
  ∃ a' h',bY sz bytes a x h=some (a',h')/\Own enc sz k h' a' (l++m)/\(∀ c,c<h.next->cL a≠some c->h'.get c=h.get c)/\h.next<=h'.next/\(m≠[]->∀ c,cL a'=some c->h.next<=c):=by
 cases o with
 |nil=>
  rw [length_nil,Nat.zero_add] at hroom
  cases m with
  |nil=>
   refine ⟨.ax,h,?_,.nil,fun _ _ _=>rfl,dK _,fun h=>absurd rfl h⟩;have hc:=r.cells;have hl:=r.len;simp only [length_nil] at hc hl;simp [bY,hl,hc]
  |cons y m=>
   refine ⟨.slice h.next 0 (y :: m).length sz,h.alloc (.cells ((y :: m).flatMap enc)),?_,.row _ _ hk (lt_succ_self _) (aA _ _),fun c hc _=>by rw [Heap.aQ,if_neg (by omega)],le_succ _,fun _ c hc=>by cases hc;exact dK _⟩;have h0:¬ (y :: m).length=0:=by simp
   simp only [bY,r.len,r.cells,if_neg h0];rw [if_pos (by rw [and_eq_true];exact ⟨fh hroom,uF h1 _⟩)]
 |row b l hb1 hb2 hb3=>
  cases m with
  |nil=>
   rw [append_nil];refine ⟨.slice b 0 l.length sz,h,?_,.row b l hb1 hb2 hb3,fun _ _ _=>rfl,dK _,fun h=>absurd rfl h⟩;have hc:=r.cells;have hl:=r.len;simp only [length_nil] at hc hl;simp [bY,hl,hc]
  |cons y m=>
   have h0:¬ (y :: m).length=0:=by simp
   have hl:(l.flatMap enc).length=l.length*sz:=gj he l;refine ⟨.slice h.next 0 (l++y :: m).length sz,(h.set b .dead).alloc (.cells ((l++y :: m).flatMap enc)),?_,.row _ _ hk ?_ ?_,fun c hc hne=>?_,?_,fun _ c hc=>by cases hc;exact dK _⟩
   ·simp only [bY,r.len,r.cells,if_neg h0,if_true,hb3,drop_zero,Nat.zero_add];rw [if_pos (by rw [and_eq_true,and_eq_true];exact ⟨⟨fh hroom,uF h1 _⟩,fh (by omega)⟩),<- hl,take_length,flatMap_append,length_append]
   ·rw [Heap.aJ,Heap.bp];omega
   ·have:=aA (h.set b .dead) (.cells ((l++y :: m).flatMap enc))
    rwa [Heap.bp] at this
   ·rw [Heap.aQ,Heap.bp,if_neg (by omega),Heap.aP,if_neg (fun e=>hne (by rw [e];rfl))]
   ·rw [Heap.aJ,Heap.bp];omega
end
theorem pL(s:b8):bx (encS s)=true:=rfl
def strLt(a b:b8):Bool:=Op.bytesLess a b
def eY:List b8->b8->List b8
 |[],s=>[s]
 |x :: l,s=>if strLt x s=true then x :: eY l s else if x=s then x :: l else s :: x :: l
theorem UL(a b:b8):aG .lss (.str a) (.str b)=some (.bool (strLt a b)):=by simp [aG,strLt]
theorem sE(a b:b8):(a==b)=decide (a=b):=by
 by_cases h:a=b
 ·subst h;simp
 ·rw [eT h];simp [h]
theorem JI{x:b8}(hx:l[i]?=some x):l.take i++eY (l.drop i) s=if strLt x s=true then l.take (i+1)++eY (l.drop (i+1)) s else if x=s then l else l.take i++(s :: l.drop i):=by
 have h1:=(kT.1 hx).1
 have hd:l.drop i=x :: l.drop (i+1):=by
  rw [drop_eq_getElem_cons h1];rw [ez h1] at hx;cases hx;rfl
 rw [hd,eY];split
 ·rw [take_add_one,hx];simp
 ·split
  ·rw [<- hd,take_append_drop]
  ·rfl
theorem Own.ge{enc:α->List AV}{l:List α}(o:Own enc sz k h a l){c:Nat}(hc:cL a=some c):k<=c:=by
 cases o with
 |nil=>cases hc
 |row b l h1 _ _=>cases hc;exact h1
theorem Own.B3{enc:α->List AV}{j:Nat}{l:List α}(o:Own enc sz k h a l)(hj:j<=k):Own enc sz j h a l:=by
 cases o with
 |nil=>exact .nil
 |row b l h1 h2 h3=>exact .row b l (Nat.le_trans hj h1) h2 h3
theorem eD{k:Nat}{h:Heap}{a:AV}{l:List b8}{s:b8}(o:Own encS 1 k h a l)(hk:k<=h.next)(hl:l.length<=100000){K:Out->Heap->Bool}
  (hK:∀ a' h',bu h h'->Own encS 1 k h' a' (eY l s)->K (.ret a') h'=true):Sem TP 79 [a,.str s] h K:=by
 have hbig:l.length<=cE:=by unfold cE;omega
 refine F.Aa ?_;rw [F.BD]
 have app:∀ i,i<=l.length->eY l s=l.take i++(s :: l.drop i)->∀ e:Env,e 0=a->e 1 = .str s->e 5 = .int .i64 (i:Int) ->
   (af (fB [] [] []) fun c11=>
    af (ja (some 1) (e 0) none (some (e 5))) fun x12=>
    af (fB [(.str [])] [(0,1)] [(e 1)]) fun c13=>
    af (ja (some 1) (e 0) (some (e 5)) none) fun x14=>
    cX (bY 1 16 (.slice (Heap.next h) 0 0 1) x12 (Heap.alloc (Heap.alloc h (.cells c11)) (.cells c13))) fun x15 h16=>
    cX (bY 1 16 x15 (.slice (Heap.next (Heap.alloc h (.cells c11))) 0 1 1) h16) fun x17 h18=>
    cX (bY 1 16 x17 x14 h18) fun x19 vK=>
    K (.ret x19) vK)=true:=by
  intro i hi he e e0 e1 e5;obtain ⟨x12,ae6,r12⟩:=o.UJ iL hi;obtain ⟨x14,ae7,r14⟩:=o.UK iL hi;rw [show fB [] [] []=some [] from rfl];simp only [an,e0,e1,e5,ae6,ae7];rw [show fB [(.str [])] [(0,1)] [.str s]=some [.str s] from rfl];simp only [an];have jO:bu h (Heap.alloc (Heap.alloc h (.cells [])) (.cells [.str s])):=(bu.alloc _ _).trans (bu.alloc _ _)
  have g0:(Heap.alloc (Heap.alloc h (.cells [])) (.cells [.str s])).get h.next=some (.cells []):=by
   rw [Heap.aQ,Heap.aJ,if_neg (by omega)];exact aA _ _
  have g1:(Heap.alloc (Heap.alloc h (.cells [])) (.cells [.str s])).get (h.next+1)=some (.cells [.str s]):=aA _ _;have gn:(Heap.alloc (Heap.alloc h (.cells [])) (.cells [.str s])).next=h.next+2:=rfl
  rw [Heap.aJ];generalize (Heap.alloc (Heap.alloc h (.cells [])) (.cells [.str s]))=H at jO g0 g1 gn ⊢;have o0:Own encS 1 h.next H (.slice h.next 0 0 1) ([]:List b8):=.row h.next [] (dK _) (by omega) g0
  have hm:cG=140737488355328:=rfl;have lt:(l.take i).length=i:=by rw [length_take,Nat.min_eq_left hi]
  have ld:(l.drop i).length=l.length-i:=length_drop;obtain ⟨a1,h1,p1,o1,f1,n1,_⟩:=o0.append iL pL (r12 H jO) (by omega) (bytes:=16) (by rw [hm,lt,length_nil];omega);simp only [p1,ji];have q1:h1.get (h.next+1)=some (.cells [.str s]):=by rw [f1 _ (by omega) (by simp [cL])];exact g1
  have rs:Row encS 1 h1 (.slice (h.next+1) 0 1 1) [s]:=⟨rfl,by simp [gQ,q1,encS]⟩
  have e1x:bu h h1:=⟨by have:=jO.next;omega,fun c hc=>by rw [f1 c (by omega) (by simp [cL];omega)];exact jO.get c hc⟩
  obtain ⟨a2,h2,p2,o2,f2,n2,_⟩:=o1.append iL pL rs (by omega) (bytes:=16) (by rw [hm,nil_append,lt];simp;omega);simp only [p2,ji];have e2x:bu h h2:=⟨by have:=e1x.next;omega,fun c hc=>by rw [f2 c (by have:=e1x.next;omega) (fun hb=>by have:=o1.ge hb;omega)];exact e1x.get c hc⟩
  obtain ⟨a3,h3,p3,o3,f3,n3,_⟩:=o2.append iL pL (r14 h2 e2x) (by have:=e2x.next;omega) (bytes:=16) (by rw [hm,ld,nil_append,length_append,lt];simp;omega);simp only [p3,ji];have e3x:bu h h3:=⟨by have:=e2x.next;omega,fun c hc=>by rw [f3 c (by have:=e2x.next;omega) (fun hb=>by have:=o2.ge hb;omega)];exact e2x.get c hc⟩
  refine hK a3 h3 e3x ?_;rw [he];have:=o3.B3 hk;rw [nil_append,append_assoc] at this;exact this
 have get:∀ (i:Nat) (x:b8),l[i]?=some x->∃ b,(∀ q:IntKind,dN 1 a (.int q (i:Int))=some (.ptr b (i*1)))/\ag none (.ptr b (i*1)) h=some (.str x):=fun i x hx=>by
  obtain ⟨b,_,_,h3,_,h5⟩:=o.get iL hx;exact ⟨b,h3,by have:=h5 0 (by omega);rw [Nat.add_zero] at this;rw [this];rfl⟩
 refine aD 0 l.length (zero_le _) (fun i e h'=>h'=h/\e 0=a/\e 1 = .str s/\e 5 = .int .i64 (i:Int)/\eY l s=l.take i++eY (l.drop i) s) ⟨rfl,rfl,rfl,rfl,rfl⟩ ?_ ?_
 ·rintro i e h' _ hi ⟨rfl,e0,e1,e5,ht⟩ K' hn hx hr hp;have hv:l[i]?=some l[i]:=ez hi;generalize l[i]=x at hv;obtain ⟨b,g1,g2⟩:=get i x hv;rw [JI hv] at ht;rw [F.eD.aT];simp only [e0,e1,e5,o.len,aR,reduceAdd,reduceEqDiff,reduceIte,aZ hi,g1,g2,UL]
  cases hlt:strLt x s with
  |true=>
   rw [if_pos hlt] at ht;simp only [aL,aI hi hbig,an];exact hn _ _ ⟨rfl,e0,e1,rfl,ht⟩
  |false=>
   rw [if_neg (by rw [hlt];decide)] at ht;simp only [aK];rw [hx,F.eD.aF];simp only [aR,reduceAdd,reduceEqDiff,reduceIte,e0,e1,e5,o.len,aZ hi,g1,g2,aL,sE];by_cases SF:x=s
   ·rw [if_pos SF] at ht;simp only [fh SF,aL];exact hK _ _ (bu.refl _) (by rw [ht];exact o)
   ·rw [if_neg SF] at ht;simp only [eT SF,aK];have:=app i (Nat.le_of_lt hi) ht e e0 e1 e5;simp only [e0,e1,e5] at this;exact this
 ·rintro e h' ⟨rfl,e0,e1,e5,ht⟩ K' hx;rw [F.eD.aT];simp only [e0,e5,o.len,aR,reduceAdd,reduceEqDiff,reduceIte,aS];rw [hx,F.eD.aF];simp only [aR,reduceAdd,reduceEqDiff,reduceIte,e0,e1,e5,o.len,aS,aK];have:=app l.length (dK _) (by rw [ht,drop_of_length_le (dK _)];rfl) e e0 e1 e5;simp only [e0,e1,e5] at this;exact this
structure j4 (es:List Entry) (ck:Nat):Prop where
 nodup:(es.map (·.2.2)).Nodup
 lt:∀ e ∈ es,e.2.2<ck
theorem j4.nil(ck:Nat):j4 [] ck:=⟨nodup_nil,fun _ h=>by cases h⟩
theorem j4.push(b:j4 es ck)(k v:AV):j4 (es++[(k,v,ck)]) (ck+1):=by
 refine ⟨?_,fun e he=>?_⟩
 ·rw [map_append,nodup_append];refine ⟨b.nodup,by simp,fun a ha c hc=>?_⟩;rw [mem_map] at ha;obtain ⟨e,he,rfl⟩:=ha;have:=b.lt e he;simp at hc;omega
 ·rw [mem_append] at he;rcases he with he|he
  ·have:=b.lt e he;omega
  ·simp at he;rw [he];exact lt_succ_self _
theorem JJ(es:List Entry)(i:Nat)(v:AV):(fA es i v).map (·.2.2)=es.map (·.2.2):=by
 unfold fA
 cases h:es[i]? with
 |none=>rfl
 |some e=>
  simp only [map_set];apply ext_getElem?;intro j;by_cases hj:i=j
  ·subst hj;have hi:=(kT.1 h).1;rw [getElem?_set_self (by simpa using hi),getElem?_map,h];rfl
  ·rw [getElem?_set_ne hj]
theorem j4.set(b:j4 es ck)(i:Nat)(v:AV):j4 (fA es i v) ck:=by
 refine ⟨by rw [JJ];exact b.nodup,fun e he=>?_⟩;have:e.2.2 ∈ (fA es i v).map (·.2.2):=List.mem_map_of_mem he;rw [JJ,mem_map] at this;obtain ⟨e',Zg,h⟩:=this;rw [<- h];exact b.lt e' Zg
theorem xj{d:TypeDesc}{yE:List Entry}{HG:Nat}{k v:AV}(hb:h.get b=some (.map es ck))(hB:j4 es ck)(hu:eN d (.map b) k v h=some h')(hg:h'.get b=some (.map yE HG)):j4 yE HG:=by
 simp only [eN,hb] at hu;split at hu
 ·cases hu;rw [Heap.aP,if_pos rfl] at hg;cases hg;exact hB.set _ _
 ·cases hu;rw [Heap.aP,if_pos rfl] at hg;cases hg;exact hB.push k v
 ·cases hu
abbrev ni:=List (b8×AV)
def ni.find(m:ni)(k:b8):Option AV:=(List.find? (fun p=>k==p.1) m).map (·.2)
def ni.r9:ni->b8->AV->ni
 |[],k,v=>[(k,v)]
 |p :: m,k,v=>if k==p.1 then (p.1,v) :: m else p :: ni.r9 m k v
def uG:List Entry->ni->Prop
 |[],[]=>True
 |e :: es,p :: m=>e.1 = .str p.1/\e.2.1=p.2/\uG es m
 |_,_=>False
theorem uG.jN{k:b8}:∀ {es:List Entry} {m:ni} (i:Nat),uG es m->∃ r,jN .string (.str k) es i=some r/\match r with
  |none=>m.find k=none
  |some (j,v)=>∃ n,j=i+n/\m.find k=some v/\∀ w,uG (fA es n w) (m.r9 k w)
 |[],[],i,_=>⟨none,rfl,rfl⟩
 |e :: es,p :: m,i,⟨h1,h2,h3⟩=>by
  obtain ⟨ek,ev,en⟩:=e;simp only at h1 h2;subst h1;subst h2;by_cases hk:k=p.1
  ·subst hk;refine ⟨some (i,p.2),by simp [Go.AM.jN,wQ],0,rfl,by simp [ni.find],fun w=>?_⟩;simp [fA,uG,ni.r9,h3]
  ·obtain ⟨r,hr,hm⟩:=uG.jN (k:=k) (i+1) h3;have Xn:(k==p.1)=false:=by simpa using hk
   refine ⟨r,by simp only [Go.AM.jN,wQ,Xn,hr],?_⟩
   cases r with
   |none=>simpa [ni.find,hk] using hm
   |some jv=>
    obtain ⟨n,a,b,e⟩:=hm;refine ⟨n+1,by omega,by simpa [ni.find,hk] using b,fun w=>?_⟩;have:=e w;simp only [fA,getElem?_cons_succ,ni.r9,Xn] at this ⊢;split at this<;>simp_all [uG]
theorem uG.append{m:ni}(h:uG es m){k:b8}(hk:m.find k=none)(v:AV)(n:Nat):uG (es++[(.str k,v,n)]) (m.r9 k v):=by
 induction es generalizing m with
 |nil=>cases m with
  |nil=>simp [uG,ni.r9]
  |cons p m=>exact h.elim
 |cons e es ih=>cases m with
  |nil=>exact h.elim
  |cons p m=>
   obtain ⟨h1,h2,h3⟩:=h;have hne:k≠p.1:=fun e=>by subst e;simp [ni.find] at hk
   have hk':ni.find m k=none:=by simpa [ni.find,hne] using hk
   have:=ih h3 hk';simp only [cons_append,ni.r9];rw [if_neg (by simpa using hne)];exact ⟨h1,h2,this⟩
theorem uH(o:Own encS 1 k h a l){x:b8}(hx:l[i]?=some x) :
  ∃ b,b<h.next/\(∀ q:IntKind,dN 1 a (.int q (i:Int))=some (.ptr b (i*1)))/\ag none (.ptr b (i*1)) h=some (.str x):=by
 obtain ⟨b,_,h2,h3,_,h5⟩:=o.get iL hx;exact ⟨b,h2,h3,by have:=h5 0 (by omega);rw [Nat.add_zero] at this;rw [this];rfl⟩
theorem uI{p:α->Bool}{l:List α}{a:α}(ha:l[i]?=some a)(ht:(l.take i).any p=false)(hp:p a=false):(l.take (i+1)).any p=false:=by
 rw [take_add_one,ha];simp [ht,hp]
theorem dH{k:Nat}{h:Heap}{a:AV}{l:List b8}{s:b8}(o:Own encS 1 k h a l)(hl:l.length<=cE){K:Out->Heap->Bool}(hK:K (.ret (.bool (l.any fun x=>x==s))) h=true):Sem TP 86 [a,.str s] h K:=by
 refine F.sX ?_;rw [F.ur];refine aD 0 l.length (zero_le _) (fun i e h'=>h'=h/\e 0=a/\e 1 = .str s/\e 5 = .int .i64 (i:Int)/\((l.take i).any fun x=>x==s)=false) ⟨rfl,rfl,rfl,rfl,rfl⟩ ?_ ?_
 ·rintro i e h' _ hi ⟨rfl,e0,e1,e5,ht⟩ K' hn hx hr hp;have hv:l[i]?=some l[i]:=ez hi;generalize l[i]=x at hv;obtain ⟨b,_,g1,g2⟩:=uH o hv;rw [F.dH.aT];simp only [e0,e1,e5,o.len,aR,reduceAdd,reduceEqDiff,reduceIte,aZ hi,g1,g2]
  cases hq:x==s with
  |true=>
   simp only [aL];rw [hr,F.dH.bz];simp only [bL,reduceEqDiff,reduceIte];rw [List.any_eq_true.2 ⟨x,iz hv,hq⟩] at hK;exact hK
  |false=>
   simp only [aK,aI hi hl,an];exact hn _ _ ⟨rfl,e0,e1,rfl,uI hv ht hq⟩
 ·rintro e h' ⟨rfl,e0,e1,e5,ht⟩ K' hx;rw [F.dH.aT];simp only [e0,e5,o.len,aR,reduceAdd,reduceEqDiff,reduceIte,aS];rw [hx,F.dH.aF];rw [jD (dK _)] at ht;rw [ht] at hK;exact hK
theorem Own.push{enc:α->List AV}{l:List α}(o:Own enc sz k h a l)(he:∀ x,(enc x).length=sz)(h1:∀ x,bx (enc x)=true)(hk:k<=h.next){bytes:Nat}(hroom:(l.length+1)*bytes<=cG)(v:α) :
  ∃ a' h',bY sz bytes a (.slice h.next 0 1 sz) (h.alloc (.cells (enc v)))=some (a',h')/\Own enc sz k h' a' (l++[v])/\(∀ c,c<h.next->cL a≠some c->h'.get c=h.get c)/\h.next<=h'.next/\(∀ h0,bu h0 h->h0.next<=k->bu h0 h')/\∀ c,cL a'=some c->h.next<=c:=by
 have g:=aA h (.cells (enc v));have hn:(h.alloc (.cells (enc v))).next=h.next+1:=Heap.aJ h _
 have hx:bu h (h.alloc (.cells (enc v))):=bu.alloc _ _
 have r:Row enc sz (h.alloc (.cells (enc v))) (.slice h.next 0 1 sz) [v]:=by
  refine ⟨rfl,?_⟩;have hl:(enc v).length=sz:=he v;simp only [gQ,g,if_true,length_singleton,Nat.one_mul,Nat.zero_add,hl,dK,drop_zero];rw [<- hl,take_length];simp
 obtain ⟨a',h',p,o',f,n,hf⟩:=(o.ext hx).append he h1 r (by omega) (bytes:=bytes) (by simpa using hroom);have f':∀ c,c<h.next->cL a≠some c->h'.get c=h.get c:=fun c hc hb=>by rw [f c (by omega) hb];exact hx.get c hc
 refine ⟨a',h',p,o',f',by omega,fun h0 e0 hk0=>⟨by have:=e0.next;omega,fun c hc=>?_⟩,fun c hc=>by have:=hf (by simp) c hc;omega⟩;rw [f' c (by have:=e0.next;omega) (fun hb=>by have:=o.ge hb;omega)];exact e0.get c hc
def nR(y:b8×Int):List AV:=[.str y.1,.int .i64 y.2]
theorem pM(y:b8×Int):(nR y).length=2:=rfl
theorem QY(s:b8)(n:Int):iD [.str [],.int .i64 0] [(0,1),(1,1)] [.str s,.int .i64 n]=some (.agg (nR (s,n))):=rfl
theorem QZ(y:b8×Int):fB [.str [],.int .i64 0] [(0,2)] [.agg (nR y)]=some (nR y):=rfl
theorem Own.LV{enc:α->List AV}{l:List α}(o:Own enc sz k h a l)(hf:∀ v,∀ x ∈ enc v,Fz true h x x):∃ x:Sl α,x.l=l/\Fz true h a (ak enc sz x):=by
 cases o with
 |nil=>exact ⟨none,rfl,.dX rfl⟩
 |row b l h1 h2 h3=>
  refine ⟨some l,rfl,.slice b 0 l.length sz _ _ h3 rfl fun i x y hx hy=>?_⟩;rw [hx] at hy;cases hy;have:=iz hx;rw [mem_flatMap] at this;obtain ⟨v,hv,S9⟩:=this;exact hf v x S9
theorem Own.kM{enc:α->List AV}{l:List α}(o:Own enc sz k h a l){d:Nat}(hd:d<k)(x:j9):Own enc sz k (h.set d x) a l:=by
 cases o with
 |nil=>exact .nil
 |row b _ w1 w2 w3=>exact .row b l w1 (by rw [Heap.bp];exact w2) (by rw [Heap.aP,if_neg (by omega)];exact w3)
theorem vL(m:eP)(k j:b8)(v:Int):(m.r9 k v).find j=if j=k then some v else m.find j:=by
 induction m with
 |nil=>
  simp only [eP.r9,eP.find,find?_cons,find?_nil];by_cases h:j=k
  ·subst h;simp
  ·have:(j==k)=false:=by simpa using h
   rw [this,if_neg h]
 |cons p m ih=>
  simp only [eP.r9];by_cases hk:k=p.1
  ·rw [if_pos (by simpa using hk)];subst hk;simp only [eP.find,find?_cons];by_cases h:j=p.1
   ·subst h;simp
   ·have:(j==p.1)=false:=by simpa using h
    rw [this,if_neg h]
  ·rw [if_neg (by simpa using hk)];simp only [eP.find,find?_cons] at ih ⊢;by_cases h:j=p.1
   ·subst h;simp only [beq_self_eq_true,map_some];rw [if_neg (Ne.symm hk)]
   ·have:(j==p.1)=false:=by simpa using h
    rw [this];exact ih
theorem JK(m:eP)(k:b8)(v:Int):(m.r9 k v).map (·.1)=if k ∈ m.map (·.1) then m.map (·.1) else m.map (·.1)++[k]:=by
 induction m with
 |nil=>simp [eP.r9]
 |cons p m ih=>
  simp only [eP.r9];by_cases hk:k=p.1
  ·rw [if_pos (by simpa using hk)];subst hk;simp
  ·rw [if_neg (by simpa using hk),map_cons,ih];by_cases hm:k ∈ m.map (·.1)
   ·rw [if_pos hm,if_pos (by rw [map_cons];exact mem_cons_of_mem _ hm)];rfl
   ·rw [if_neg hm,if_neg (by rw [map_cons,mem_cons];exact fun h=>h.elim hk hm)];rfl
theorem Gr(hm:(m.map (·.1)).Nodup)(k:b8)(v:Int):((m.r9 k v).map (·.1)).Nodup:=by
 rw [JK];split
 ·exact hm
 ·rename_i h;rw [nodup_append];exact ⟨hm,by simp,fun a ha b hb=>by simp at hb;subst hb;exact fun e=>h (e▸ha)⟩
theorem rE{k:b8}(h:m.find k=some v):(k,v) ∈ m:=by
 unfold eP.find at h;obtain ⟨p,hp,rfl⟩:=map_eq_some_iff.1 h;have h1:=mem_of_find?_eq_some hp;have h2:=find?_some hp;simp only [beq_iff_eq] at h2;subst h2;exact h1
theorem vM(hm:(m.map (·.1)).Nodup){p:b8×Int}(hp:p ∈ m):m.find p.1=some p.2:=by
 induction m with
 |nil=>cases hp
 |cons q m ih=>
  rw [map_cons,nodup_cons] at hm;simp only [eP.find,find?_cons];rcases mem_cons.1 hp with rfl|hp
  ·simp
  ·have:(p.1==q.1)=false:=by
    simp only [beq_eq_false_iff_ne];exact fun e=>hm.1 (e▸List.mem_map_of_mem hp)
   rw [this];exact ih hm.2 hp
theorem kr.mem:∀ {es:List Entry} {m:eP},kr es m->∀ e ∈ es,∃ p ∈ m,e.1 = .str p.1/\e.2.1 = .int .i64 p.2
 |[],_,_,e,he=>by cases he
 |e0 :: es,[],h,_,_=>h.elim
 |e0 :: es,p :: m,⟨h1,h2,h3⟩,e,he=>by
  rcases mem_cons.1 he with rfl|he
  ·exact ⟨p,mem_cons_self,h1,h2⟩
  ·obtain ⟨q,hq,r⟩:=kr.mem h3 e he;exact ⟨q,mem_cons_of_mem _ hq,r⟩
theorem lI{z v:AV}(h1:v.dI = [v])(hv:bx [v]=true):∃ h',bf 1 (.ptr h.next 0) v (h.alloc (.cells [z]))=some h'/\h'.get h.next=some (.cells [v])/\(∀ b,b≠h.next->h'.get b=h.get b)/\h'.next=h.next+1:=by
 refine ⟨_,by rw [cK (n:=1) (aA _ _) (by rw [h1];rfl) (by rw [h1];exact hv) (by simp),h1],?_,fun b hb=>?_,by rw [Heap.bp,Heap.aJ]⟩
 ·rw [Heap.aP,if_pos rfl];rfl
 ·rw [Heap.aP,if_neg hb,Heap.aQ,if_neg hb]
theorem sF{x s:b8}:∀ {l:List b8},x ∈ eY l s↔x ∈ l\/x=s
 |[]=>by simp [eY]
 |a :: l=>by
  rw [eY];split
  ·rw [mem_cons,sF (l:=l),mem_cons,_root_.or_assoc]
  ·split
   ·rename_i h;subst h;rw [mem_cons];exact ⟨fun h=>.inl h,fun h=>h.elim id .inl⟩
   ·rw [mem_cons];exact Or.comm
theorem Fz.LW{gJ:Bool}{v r:AV}(hr:r.scalar=true)(hf:Fz gJ h v r):v=r:=by
 cases hf<;>first|rfl|(simp [AV.scalar] at hr)
theorem Sem.Wn{P:Program}{f:FuncId}{args w8:List AV}{r:AV}(hr:r.scalar=true)(hs:Sem P f w8 Heap.empty (qN r))(hp:mu true h args w8)(hK:K (.ret r) h=true):Sem P f args h K:=
 hs.Xg hp fun o h' ho=>by
  obtain ⟨v,rfl,hf⟩:=cu.1 ho;obtain rfl:=hf.LW hr;exact ⟨_,_,rfl,.scalar _ hr,hK⟩
theorem vN{gJ:Bool}(hb:h.get b=some (.cells (d.map iv))):Fz gJ h (.slice b 0 d.length 1) (ak encI 1 (some d)):=by
 refine .slice b 0 d.length 1 _ _ hb (by rw [sC]) fun i x y hx hy=>?_;rw [sC,hy] at hx;cases hx;rw [<- sC,getElem?_map] at hy;obtain ⟨v,hv,rfl⟩:=map_eq_some_iff.1 hy;exact .scalar _ rfl
theorem Own.lt{enc:α->List AV}{l:List α}(o:Own enc sz k h a l){c:Nat}(hc:cL a=some c):c<h.next:=by
 cases o with
 |nil=>cases hc
 |row b l h1 h2 h3=>cases hc;exact h2
theorem HW[BEq α][LawfulBEq α]{l m:List α}{a b:α}(ha:l[i]?=some a)(hb:m[i]?=some b):(l.drop i==m.drop i)=((a==b)&&(l.drop (i+1)==m.drop (i+1))):=by
 have h1:=(kT.1 ha).1;have h2:=(kT.1 hb).1;rw [drop_eq_getElem_cons h1,drop_eq_getElem_cons h2];rw [ez h1] at ha;rw [ez h2] at hb;cases ha;cases hb;rfl
theorem eR{x y:Sl Int}(hx:x.l.length<=cE){h:Heap}{K:Out->Heap->Bool}(hK:K (.ret (.bool (x.l==y.l))) h=true):Sem TP 20 [ak encI 1 x,ak encI 1 y] h K:=by
 refine F.BC ?_;rw [F.Dm];simp only [aR,reduceAdd,reduceEqDiff,reduceIte,cI];by_cases hl:x.l.length=y.l.length
 ·simp only [fh (by omega:(x.l.length:Int)=(y.l.length:Int)),Bool.not_true,aK];refine aD 0 x.l.length (zero_le _) (fun i e h'=>h'=h/\e 0=ak encI 1 x/\e 1=ak encI 1 y/\e 5 = .int .i64 (i:Int)/\(x.l==y.l)=(x.l.drop i==y.l.drop i)) ⟨rfl,rfl,rfl,rfl,rfl⟩ ?_ ?_
  ·rintro i e h' _ hi ⟨rfl,e0,e1,e5,ht⟩ K' hn gi hr hp;have IE:i<y.l.length:=by omega
   have hv:x.l[i]?=some x.l[i]:=ez hi;have hw:y.l[i]?=some y.l[i]:=ez IE;rw [HW hv hw] at ht;generalize x.l[i]=a at hv ht;generalize y.l[i]=b at hw ht;rw [F.eR.aT];simp only [e0,e1,e5,aR,reduceAdd,reduceEqDiff,reduceIte,aZ hi,aV x hi,aV y IE,iB hv,iB hw]
   cases hq:a==b with
   |false=>
    simp only [Bool.not_false,aL];rw [hr,F.eR.bz];simp only [bL,reduceEqDiff,reduceIte];rw [ht,hq] at hK;exact hK
   |true=>
    simp only [Bool.not_true,aK,aI hi hx,an];exact hn _ _ ⟨rfl,e0,e1,rfl,by rw [ht,hq,Bool.true_and]⟩
  ·rintro e h' ⟨rfl,e0,e1,e5,ht⟩ K' gi;rw [F.eR.aT];simp only [e0,e5,aR,reduceAdd,reduceEqDiff,reduceIte,aS];rw [gi,F.eR.aF];rw [drop_of_length_le (dK _),drop_of_length_le (by omega)] at ht;rw [ht] at hK;exact hK
 ·simp only [eT (by omega:¬ (x.l.length:Int)=(y.l.length:Int)),Bool.not_false,aL]
  have:(x.l==y.l)=false:=by
   simp only [beq_eq_false_iff_ne];exact fun e=>hl (congrArg List.length e)
  rw [this] at hK;exact hK
theorem oO:∀ a:b8,strLt a a=false
 |[]=>rfl
 |x :: a=>by
  have:=oO a;unfold strLt at this ⊢;simp [Op.bytesLess,this]
theorem uJ:∀ {a b c:b8},strLt a b=true->strLt b c=true->strLt a c=true
 |_,[],_,h,_=>by unfold strLt at h;simp [Op.bytesLess] at h
 |_,_ :: _,[],_,h=>by unfold strLt at h;simp [Op.bytesLess] at h
 |[],_ :: _,_ :: _,_,_=>rfl
 |x :: a,y :: b,z :: c,h1,h2=>by
  have ih:=@uJ a b c;unfold strLt at h1 h2 ih ⊢;simp only [Op.bytesLess,or_eq_true,decide_eq_true_eq,and_eq_true,beq_iff_eq] at h1 h2 ⊢;rcases h1 with h1|⟨rfl,h1⟩<;>rcases h2 with h2|⟨rfl,h2⟩
  ·exact .inl (UInt8.lt_trans h1 h2)
  ·exact .inl h1
  ·exact .inl h2
  ·exact .inr ⟨rfl,ih h1 h2⟩
theorem Ao:∀ {a b:b8},strLt a b=false->a≠b->strLt b a=true
 |[],[],_,h=>absurd rfl h
 |[],_ :: _,h,_=>by unfold strLt at h;simp [Op.bytesLess] at h
 |_ :: _,[],_,_=>rfl
 |x :: a,y :: b,h1,h2=>by
  have ih:=@Ao a b;unfold strLt at h1 ih ⊢;simp only [Op.bytesLess,or_eq_false_iff,decide_eq_false_iff_not,and_eq_false_iff,beq_eq_false_iff_ne] at h1;simp only [Op.bytesLess,or_eq_true,decide_eq_true_eq,and_eq_true,beq_iff_eq];obtain ⟨h3,h4⟩:=h1;by_cases e:x=y
  ·subst e;rcases h4 with h4|h4
   ·exact absurd rfl h4
   ·exact .inr ⟨rfl,ih h4 (fun h=>h2 (by rw [h]))⟩
  ·refine .inl ?_;rcases UInt8.lt_or_lt_of_ne e with h|h
   ·exact absurd h h3
   ·exact h
theorem XJ:∀ {a b:b8},leB a b=true->a≠b->strLt a b=true:=fun {a b} h hne=>by
 cases hs:strLt a b with
 |true=>rfl
 |false=>
  exfalso
  have key:∀ {a b:b8},strLt b a=true->b<a:=by
   intro a
   induction a with
   |nil=>intro b h;unfold strLt at h;cases b<;>simp [Op.bytesLess] at h
   |cons x a ih=>
    intro b h
    cases b with
    |nil=>exact nil_lt_cons _ _
    |cons y b=>
     unfold strLt at h;simp only [Op.bytesLess,or_eq_true,decide_eq_true_eq,and_eq_true,beq_iff_eq] at h;rcases h with h|⟨rfl,h⟩
     ·exact cons_lt_cons_iff.2 (.inl h)
     ·exact cons_lt_cons_iff.2 (.inr ⟨rfl,ih h⟩)
  have h1:=key (Ao hs hne);have h2:a<=b:=of_decide_eq_true h;exact absurd h1 (List.not_lt.2 h2)
def sZ(l:List b8):Prop:=l.Pairwise fun a b=>strLt a b=true
theorem xk:∀ {l m:List b8},sZ l->sZ m->(∀ x,x ∈ l↔x ∈ m)->l=m
 |[],[],_,_,_=>rfl
 |[],y :: m,_,_,h=>by have:=(h y).2 mem_cons_self;cases this
 |x :: l,[],_,_,h=>by have:=(h x).1 mem_cons_self;cases this
 |x :: l,y :: m,hl,hm,h=>by
  obtain ⟨l1,l2⟩:=pairwise_cons.1 hl;obtain ⟨m1,m2⟩:=pairwise_cons.1 hm
  have hxy:x=y:=by
   rcases mem_cons.1 ((h x).1 mem_cons_self) with e|e
   ·exact e
   ·rcases mem_cons.1 ((h y).2 mem_cons_self) with e'|e'
    ·exact e'.symm
    ·have:=uJ (m1 x e) (l1 y e');rw [oO] at this;cases this
  subst hxy;rw [xk l2 m2 fun z=>?_];constructor
  ·intro hz;rcases mem_cons.1 ((h z).1 (mem_cons_of_mem _ hz)) with e|e
   ·subst e;have:=l1 z hz;rw [oO] at this;cases this
   ·exact e
  ·intro hz;rcases mem_cons.1 ((h z).2 (mem_cons_of_mem _ hz)) with e|e
   ·subst e;have:=m1 z hz;rw [oO] at this;cases this
   ·exact e
theorem xm:∀ {l:List b8},sZ l->∀ s,sZ (eY l s)
 |[],_,s=>pairwise_singleton _ _
 |x :: l,h,s=>by
  obtain ⟨h1,h2⟩:=pairwise_cons.1 h;rw [eY];split
  ·rename_i hx;refine pairwise_cons.2 ⟨fun y hy=>?_,xm h2 s⟩;rcases sF.1 hy with hy|rfl
   ·exact h1 y hy
   ·exact hx
  ·rename_i hx;split
   ·exact h
   ·rename_i hne;have hsx:strLt s x=true:=Ao (by simpa using hx) hne;refine pairwise_cons.2 ⟨fun y hy=>?_,h⟩;rcases mem_cons.1 hy with rfl|hy
    ·exact hsx
    ·exact uJ hsx (h1 y hy)
theorem Gs{ck:Nat}:∀ {es:List Entry},(∀ e ∈ es,(∃ s,e.1 = .str s/\s.length<=1000)/\e.2.2<ck)->(es.map keyBytes).Nodup->(es.map (·.2.2)).Nodup->si ck es=true
 |[],_,_,_=>rfl
 |e :: es,h,h1,h2=>by
  rw [map_cons,nodup_cons] at h1 h2;obtain ⟨⟨s,hs,hl⟩,hc⟩:=h e mem_cons_self;have ih:=Gs (ck:=ck) (es:=es) (fun f hf=>h f (mem_cons_of_mem _ hf)) h1.2 h2.2;have hb:ble s.length 140737488351232=true:=ble_eq_true_of_le (by omega);have EZ:ble (e.2.2+1) ck=true:=ble_eq_true_of_le hc
  have mA:es.all (fun f=>!(keyBytes e==keyBytes f)&&!(Nat.beq e.2.2 f.2.2))=true:=by
   rw [List.all_eq_true];intro f hf
   have q1:(keyBytes e==keyBytes f)=false:=by
    simp only [beq_eq_false_iff_ne];exact fun q=>h1.1 (by rw [q];exact List.mem_map_of_mem hf)
   have q2:Nat.beq e.2.2 f.2.2=false:=by
    cases hq:Nat.beq e.2.2 f.2.2 with
    |false=>rfl
    |true=>exact absurd (by rw [eq_of_beq_eq_true hq];exact List.mem_map_of_mem hf) h2.1
   rw [q1,q2];rfl
  simp only [si,hs,isStr,hb,EZ,mA,ih,Bool.and_self]
theorem keys_map{M:Nat}(hK:K (.ret (.func 106 [] [.ptr h.next 0])) (h.alloc (.box (.map M)))=true):Sem TP 62 [.map M] h K:=
 rA.Wb (f:=62) (g:=No 106) rfl hK
theorem LX{M:Nat}(hb:h.get b=some (.box (.map M)))(hM:h.get M=some (.map es ck))(l9:si ck es=true)(hlen:es.length<=1000000)
  (hK:∀ a h',bu h h'->Own encS 1 h.next h' a (ru (es.map keyBytes))->K (.ret a) h'=true):Sem TP 61 [.func 106 [] [.ptr b 0]] h K:=by
 refine rA.Wb (f:=61) (g:=vF 106) rfl ?_;have hl:ble (es.length*16) 140737488355328=true:=ble_eq_true_of_le (by omega)
 have h2:vF 106 [.func 106 [] [.ptr b 0]] h K=true:=by
  simp only [vF,hb,hM,l9,hl,Bool.true_and];rw [show Nat.beq 106 106=true from rfl,Bool.true_and];generalize ru (es.map keyBytes)=ns at hK ⊢
  cases ns with
  |nil=>exact hK _ _ (bu.refl _) .nil
  |cons k ks=>
   have e:(k :: ks).map AV.str=(k :: ks).flatMap encS:=by
    generalize (k :: ks)=l
    induction l with
    |nil=>rfl
    |cons x l ih=>rw [map_cons,flatMap_cons,ih];rfl
   refine hK _ _ (bu.alloc _ _) ?_;rw [e];exact .row _ (k :: ks) (dK _) (lt_succ_self _) (aA _ _)
 exact h2
theorem HX(hn:l.Nodup):sZ (ru l)/\∀ x,x ∈ ru l↔x ∈ l:=by
 refine ⟨?_,fun x=>(pI l).mem_iff⟩;have h1:=sj l;have h2:(ru l).Nodup:=(pI l).nodup_iff.2 hn;unfold sZ;unfold List.Nodup at h2;exact (h1.and h2).imp fun {a b} h=>XJ h.1 h.2
theorem uK(hb:h.get b=some (.map es ck))(hm:kr es m)(k:b8) :
  dW .string (.int .i64 0) false (.map b) (.str k) h=some (.int .i64 ((m.find k).getD 0)):=by
 obtain ⟨r,hr,vE⟩:=kr.jN (k:=k) 0 hm;simp only [dW,mB,hb,q8,qZ,if_true,hr]
 cases r with
 |none=>simp at vE;simp [vE]
 |some jv=>
  obtain ⟨n,q,_,b,c,_⟩:=vE;obtain ⟨j,v⟩:=jv;simp only at c;subst c;simp [b]
theorem Nv:∀ {es:List Entry} {m:eP},kr es m->es.map keyBytes=m.map (·.1)
 |[],[],_=>rfl
 |e :: es,p :: m,⟨h1,_,h3⟩=>by
  obtain ⟨ek,ev⟩:=e;simp only at h1;subst h1;rw [map_cons,map_cons,Nv h3];rfl
end
end Go.AM
namespace Go.AM
open List Nat Bool Option
open Go Go.Proofs
noncomputable section
variable {K:Out->Heap->Bool} {h h':Heap} {hs ks o:List b8} {D:b8->Option (Nat×List Bool)} {n k M V b base S B sz j N0 N1 N4 P3 P5 P6 PL:Nat} {lv:eA.Lv} {vs:List Int} {s nm:b8} {i0 v:Int} {g ng:FuncId} {α σ:Type} {p:Nat×List Bool} {a cW lW:AV} {x xs:Sl b8} {d:List Bool} {ga gb na nb:List AV}
theorem vO{enc:α->List AV}(he:∀ a,(enc a).length=sz)(x:Sl α)(h:Heap):Row enc sz h (ak enc sz x) x.l:=by
 cases x with
 |none=>exact ⟨rfl,rfl⟩
 |some l=>
  refine ⟨rfl,?_⟩;have hl:(l.flatMap enc).length=l.length*sz:=gj he l;simp only [ak,gQ,Sl.HE,Nat.zero_add,hl,beq_self_eq_true,dK,decide_true,Bool.and_self,if_true,drop_zero];rw [<- hl,take_length]
structure eV where
 kind:Int
 neg:Bool
 name:b8
 args:Sl b8
structure aN where
 name:b8
 args:Sl b8
 body:Sl eV
def bP(c:eV):List AV:=[.int .i64 c.kind,.bool c.neg,.str c.name,ak encS 1 c.args]
def iO(nm:b8)(xs:Sl b8):List AV:=[.str nm,ak encS 1 xs]
def aO(r:aN):List AV:=[.str r.name,ak encS 1 r.args,ak bP 4 r.body]
theorem iH(c:eV):(bP c).length=4:=rfl
theorem gu(r:aN):(aO r).length=3:=rfl
theorem yb(c:eV):AV.cN (bP c)=true:=by simp [bP,AV.cN,AV.pure,b7 kj]
theorem fN(r:aN):AV.cN (aO r)=true:=by simp [aO,AV.cN,AV.pure,b7 kj,b7 yb]
theorem Ap(nm:b8)(xs:Sl b8):bx (iO nm xs)=true:=by
 unfold iO;simp only [bx,fR,Bool.and_true];rfl
theorem iI(c:eV):bx (bP c)=true:=by
 unfold bP;simp only [bx,fR,Bool.and_true];rfl
theorem jG(r:aN):bx (aO r)=true:=by
 unfold aO;simp only [bx,fR,Bool.and_true];rfl
def eV.ok(c:eV):Prop:=c.name.length<=cE/\c.args.l.length<=cE/\∀ s ∈ c.args.l,s.length<=cE
def aN.ok(r:aN):Prop:=r.name.length<=cE/\r.args.l.length<=cE/\(∀ s ∈ r.args.l,s.length<=cE)/\r.body.l.length<=cE/\∀ c ∈ r.body.l,c.ok
theorem Nw(a b c d:AV):ju (some 2) [a,b,c,d] 2=some (.agg [c,d]):=rfl
theorem Nx(a b c:AV):ju (some 2) [a,b,c] 0=some (.agg [a,b]):=rfl
theorem HY(a b c d:AV):ju (some 4) [a,b,c,d] 0=some (.agg [a,b,c,d]):=rfl
theorem sG(a b c:AV):ju (some 3) [a,b,c] 0=some (.agg [a,b,c]):=rfl
theorem jC{i:Nat}{v:b8}(hv:x.l[i]?=some v):ag none (.ef (x.l.flatMap encS) (i*1)) h=some (.str v):=by
 rw [xO iL hv];rfl
theorem FD(hx:x.l.length<=cE){a b:List AV}{p:b8->Bool}(hp:∀ (v:b8) (K:Out->Heap->Bool),K (.ret (.bool (p v))) h=true->Sem TP g (a++([.str v]++b)) h K)
  (hK:∀ n:Int,decide (0<=n)=x.l.any p->K (.ret (.int .i64 n)) h=true):Sem TP 184 [ak encS 1 x,.func g a b] h K:=by
 refine F.kL ?_;rw [F.kZ];simp only [aR,reduceAdd,reduceEqDiff,reduceIte];refine aD 0 x.l.length (zero_le _) (fun i e h'=>h'=h/\e 0=ak encS 1 x/\e 1 = .func g a b/\e 7 = .int .i64 (x.l.length:Int)/\e 8 = .int .i64 (i:Int)/\(x.l.take i).any p=false) ⟨rfl,rfl,rfl,rfl,rfl,rfl⟩ ?_ ?_
 ·rintro i e h' _ hi ⟨rfl,e0,e1,e7,e8,ht⟩ K' hn gi hr zP;have hv:x.l[i]?=some x.l[i]:=ez hi;rw [F.bB.aT];simp only [e0,e1,e7,e8,aR,reduceAdd,reduceEqDiff,reduceIte,aZ hi,aV x hi,jC hv,fL];refine ai (hp _ _ ?_);simp only [aR,reduceAdd,reduceEqDiff,reduceIte]
  cases hq:p x.l[i] with
  |true=>
   simp only [aL];rw [hr,F.bB.bz];refine hK (i:Int) ?_;rw [fh (by omega:(0:Int)<=(i:Int))];exact (List.any_eq_true.2 ⟨_,iz hv,hq⟩).symm
  |false=>
   simp only [aK,aI hi hx,an];exact hn _ _ ⟨rfl,e0,e1,e7,rfl,by rw [take_add_one,hv,any_append,ht];simp [hq]⟩
 ·rintro e h' ⟨rfl,e0,e1,e7,e8,ht⟩ K' gi;rw [F.bB.aT];simp only [e0,e1,e7,e8,aR,reduceAdd,reduceEqDiff,reduceIte,aS];rw [gi,F.bB.aF];rw [jD (dK _)] at ht;exact hK (-1) (by rw [ht];rfl)
theorem Aq(hx:x.l.length<=cE){a b:List AV}{p:b8->Bool}(hp:∀ (v:b8) (K:Out->Heap->Bool),K (.ret (.bool (p v))) h=true->Sem TP g (a++([.str v]++b)) h K)
  (hK:K (.ret (.bool (x.l.any p))) h=true):Sem TP 167 [ak encS 1 x,.func g a b] h K:=by
 refine F.jR ?_;rw [F.jX];refine ai (FD hx hp fun n hn=>?_);simp only [aR,reduceAdd,reduceEqDiff,reduceIte];rw [hn];exact hK
theorem HZ(hK:K (.ret (.bool (!ey s))) h=true):Sem TP 168 [.str s] h K:=by
 refine F.Ac ?_;rw [F.BH];refine ai (ei ?_);simp only [aR,reduceAdd,reduceEqDiff,reduceIte];exact hK
theorem UM(p:α->Bool)(l:List α):(!(l.any fun x=>!p x))=l.all p:=by
 induction l with
 |nil=>rfl
 |cons a l ih=>rw [any_cons,all_cons,<- ih];cases p a<;>simp
theorem UN(p:α->Bool):∀ (l:List α) (h:l.length=2),l.all p=(p (l[0]'(by omega))&&p (l[1]'(by omega)))
 |[a,b],_=>by simp
def mV(nm:b8)(xs:List b8):Bool:=ey nm&&(decide (xs.length<=12)&&xs.all ey)
theorem DU(hx:xs.l.length<=cE)(hK:K (.ret (.bool (mV nm xs.l))) h=true):Sem TP 138 [.agg [.str nm,ak encS 1 xs]] h K:=by
 refine Sem.data (r:=.bool (mV nm xs.l)) ?_ (by simp [AV.cN,AV.pure,b7 kj]) hK;clear hK;refine F.Dt ?_;rw [F.Fh];have g0:(Heap.alloc Heap.empty (.cells (iO nm xs))).get 0=some (.cells (iO nm xs)):=aA _ _;have hb:eW (.agg [.str nm,ak encS 1 xs])=some (iO nm xs):=dg (Ap nm xs);simp only [hb,an,bJ];generalize (Heap.alloc Heap.empty (.cells (iO nm xs)))=H at g0 ⊢;have fin:∀ b:Bool,b=mV nm xs.l->qN (.bool (mV nm xs.l)) (.ret (.bool b)) H=true:=fun b hb=>by rw [hb];exact gd rfl
 simp only [aR,reduceAdd,reduceEqDiff,reduceIte,aj g0,iO];refine ai (ei ?_);simp only [aR,reduceAdd,reduceEqDiff,reduceIte]
 cases hn:ey nm with
 |false=>simp only [aK];exact fin _ (by simp [mV,hn])
 |true=>
  simp only [aL,aR,reduceAdd,reduceEqDiff,reduceIte,aj g0,iO];by_cases H7:xs.l.length<=12
  ·simp only [fh (by omega:(xs.l.length:Int)<=12),aL,aR,reduceAdd,reduceEqDiff,reduceIte,aj g0,iO];refine ai (Aq hx (p:=fun s=>!ey s) (fun v K hK=>HZ hK) ?_);simp only [aR,reduceAdd,reduceEqDiff,reduceIte];exact fin _ (by rw [UM];simp [mV,hn,H7])
  ·simp only [eT (by omega:¬ (xs.l.length:Int)<=12),aK];exact fin _ (by simp [mV,H7])
def gX(c:eV):Bool:=if c.kind=0 then mV c.name c.args.l else if c.kind=1\/c.kind=2 then decide (c.name = [])&&(decide (c.args.l.length=2)&&c.args.l.all ey) else false
theorem gl{c:eV}(hc:c.ok){h:Heap}{K:Out->Heap->Bool}(hK:K (.ret (.bool (gX c))) h=true):Sem TP 140 [.agg [.int .i64 c.kind,.bool c.neg,.str c.name,ak encS 1 c.args]] h K:=by
 refine Sem.data (r:=.bool (gX c)) ?_ (by simp [AV.cN,AV.pure,b7 kj]) hK;clear hK;refine F.wC ?_;rw [F.xS];have g0:(Heap.alloc Heap.empty (.cells (bP c))).get 0=some (.cells (bP c)):=aA _ _;have hb:eW (.agg [.int .i64 c.kind,.bool c.neg,.str c.name,ak encS 1 c.args])=some (bP c):=dg (iI c);simp only [hb,an,bJ];generalize (Heap.alloc Heap.empty (.cells (bP c)))=H at g0 ⊢;have fin:∀ b:Bool,b=gX c->qN (.bool (gX c)) (.ret (.bool b)) H=true:=fun b hb=>by rw [hb];exact gd rfl
 generalize qN (.bool (gX c))=R at fin ⊢;simp only [aR,reduceAdd,reduceEqDiff,reduceIte,aj g0,bP,cI,Nw];by_cases k0:c.kind=0
 ·simp only [fh k0,aL];refine ai (DU hc.2.1 ?_);simp only [aR,reduceAdd,reduceEqDiff,reduceIte];exact fin _ (by simp [gX,k0])
 simp only [eT k0,aK]
 have J:∀ (e:Env) (b:Bool),e 1 = .ptr 0 0->e 10 = .bool b->(b=true↔(c.kind=1\/c.kind=2))->F.gl.J0 R ⟨e,40,[],H⟩=true:=by
  intro e b e1 jm hb;rw [F.gl.Du];simp only [e1,jm,aR,reduceAdd,reduceEqDiff,reduceIte]
  cases b with
  |false=>
   simp only [aK];have:¬ (c.kind=1\/c.kind=2):=fun h=>by have:=hb.2 h;cases this
   exact fin _ (by simp [gX,k0,this])
  |true=>
   have hk:=hb.1 rfl;have PK:gX c=(decide (c.name = [])&&(decide (c.args.l.length=2)&&c.args.l.all ey)):=by simp only [gX,if_neg k0,if_pos hk]
   rw [PK] at fin;simp only [aL,aR,reduceAdd,reduceEqDiff,reduceIte,aj g0,bP,sE];by_cases hn:c.name = []
   ·simp only [fh hn,aL,aR,reduceAdd,reduceEqDiff,reduceIte,aj g0,bP,cI];by_cases h2:c.args.l.length=2
    ·simp only [fh (by omega:(c.args.l.length:Int)=2),aL,aR,reduceAdd,reduceEqDiff,reduceIte,aj g0,bP];have v0:c.args.l[0]?=some c.args.l[0]:=ez (by omega);have v1:c.args.l[1]?=some c.args.l[1]:=ez (by omega);have mA:c.args.l.all ey=(ey c.args.l[0]&&ey c.args.l[1]):=UN ey _ h2;have i0:=aV (enc:=encS) (sz:=1) (k:=.i64) c.args (i:=0) (by omega);have i1:=aV (enc:=encS) (sz:=1) (k:=.i64) c.args (i:=1) (by omega);have l0:=fun h=>jC (x:=c.args) v0 (h:=h);have l1:=fun h=>jC (x:=c.args) v1 (h:=h);simp only [show ((0:Nat):Int)=0 from rfl,show ((1:Nat):Int)=1 from rfl] at i0 i1;simp only [i0,i1,l0,l1,aR,reduceAdd,reduceEqDiff,reduceIte];refine ai (ei ?_);simp only [aR,reduceAdd,reduceEqDiff,reduceIte];rw [mA] at fin
     cases n0:ey c.args.l[0] with
     |false=>simp only [aK];exact fin _ (by simp [n0])
     |true=>
      simp only [aL,aR,reduceAdd,reduceEqDiff,reduceIte,aj g0,bP,i0,i1,l0,l1];refine ai (ei ?_);simp only [aR,reduceAdd,reduceEqDiff,reduceIte];exact fin _ (by simp [n0,hn,h2])
    ·simp only [eT (by omega:¬ (c.args.l.length:Int)=2),aK];exact fin _ (by simp [h2])
   ·simp only [eT hn,aK];exact fin _ (by simp [hn])
 by_cases k1:c.kind=1
 ·simp only [fh k1,aL];exact J _ true rfl rfl (by simp [k1])
 ·simp only [eT k1,aK];exact J _ (decide (c.kind=2)) rfl rfl (by simp [k1])
theorem ON{l:List b8}(o:Own encS 1 k h a l)(hl:l.length<=cE)
  (hK:∀ n:Int,decide (0<=n)=(l.any fun x=>s==x)->K (.ret (.int .i64 n)) h=true):Sem TP 145 [a,.str s] h K:=by
 refine F.iN ?_;rw [F.iT];simp only [o.len,aR,reduceAdd,reduceEqDiff,reduceIte];refine aD 0 l.length (zero_le _) (fun i e h'=>h'=h/\e 0=a/\e 1 = .str s/\e 7 = .int .i64 (l.length:Int)/\e 8 = .int .i64 (i:Int)/\((l.take i).any fun x=>s==x)=false) ⟨rfl,rfl,rfl,rfl,rfl,rfl⟩ ?_ ?_
 ·rintro i e h' _ hi ⟨rfl,e0,e1,e7,e8,ht⟩ K' hn gi hr zP;have hv:l[i]?=some l[i]:=ez hi;generalize l[i]=x at hv;obtain ⟨b,_,g1,g2⟩:=uH o hv;rw [F.bC.aT];simp only [e0,e1,e7,e8,aR,reduceAdd,reduceEqDiff,reduceIte,aZ hi,g1,g2]
  cases hq:s==x with
  |true=>
   simp only [aL];rw [hr,F.bC.bz];refine hK (i:Int) ?_;rw [fh (by omega:(0:Int)<=(i:Int))];exact (List.any_eq_true.2 ⟨_,iz hv,hq⟩).symm
  |false=>
   simp only [aK,aI hi hl,an];exact hn _ _ ⟨rfl,e0,e1,e7,rfl,uI hv ht hq⟩
 ·rintro e h' ⟨rfl,e0,e1,e7,e8,ht⟩ K' gi;rw [F.bC.aT];simp only [e0,e1,e7,e8,aR,reduceAdd,reduceEqDiff,reduceIte,aS];rw [gi,F.bC.aF];rw [jD (dK _)] at ht;exact hK (-1) (by rw [ht];rfl)
theorem H9{l:List b8}(o:Own encS 1 k h a l)(hl:l.length<=cE)
  (hK:K (.ret (.bool (l.any fun x=>s==x))) h=true):Sem TP 143 [a,.str s] h K:=by
 refine F.k7 ?_;rw [F.lH];refine ai (ON o hl fun n hn=>?_);simp only [aR,reduceAdd,reduceEqDiff,reduceIte];rw [hn];exact hK
def DV(o:List b8)(s:b8):List b8:=if (o.any fun x=>s==x)=true then o else o++[s]
def eZ(o l:List b8):List b8:=l.foldl DV o
theorem Bd{l:List b8}{i:Nat}(hs:l[i]?=some s):eZ o (l.take (i+1))=DV (eZ o (l.take i)) s:=by
 unfold eZ;rw [take_add_one,hs];simp
theorem Ra(o:List b8)(s:b8):(DV o s).length<=o.length+1:=by
 unfold DV;split<;>simp
theorem pN:∀ (l o:List b8),(eZ o l).length<=o.length+l.length
 |[],o=>dK _
 |s :: l,o=>by
  have h1:=pN l (DV o s);have h2:=Ra o s;show (eZ (DV o s) l).length<=_;rw [length_cons];omega
theorem uL{enc:α->List AV}{l:List α}(o:Own enc sz k h a l):a.dI = [a]/\bx [a]=true:=by
 cases o<;>exact ⟨rfl,rfl⟩
theorem OO{enc:α->List AV}{b:AV}{l:List α}(o:Own enc sz k h a l)(hV:h.get V=some (.cells [b])):bf 1 (.ptr V 0) a h=some (h.set V (.cells [a])):=by
 obtain ⟨h1,h2⟩:=uL o;rw [cK (n:=1) hV (by rw [h1];rfl) (by rw [h1];exact h2) (by simp),h1];rfl
theorem Wo(s:b8):fB [.str []] [(0,1)] [.str s]=some (encS s):=rfl
theorem Be{l:List b8}(hV:h.get V=some (.cells [a]))(hVk:V<k)(o:Own encS 1 k h a l)(hk:k<=h.next)(hlen:l.length+xs.l.length<=100000000)
  (hK:∀ a' h',h'.get V=some (.cells [a'])->Own encS 1 k h' a' (eZ l xs.l)->(∀ c,c<k->c≠V->h'.get c=h.get c)->h.next<=h'.next->K (.ret (.tuple [])) h'=true):Sem TP 142 [ak encS 1 xs,.ptr V 0] h K:=by
 refine F.tC ?_;rw [F.uu];simp only [aR,reduceAdd,reduceEqDiff,reduceIte]
 refine aD 0 xs.l.length (zero_le _) (fun i e h'=>∃ a',h'.get V=some (.cells [a'])/\Own encS 1 k h' a' (eZ l (xs.l.take i))/\(∀ c,c<k->c≠V->h'.get c=h.get c)/\h.next<=h'.next /\
  e 1 = .ptr V 0/\e 5=ak encS 1 xs/\e 6 = .int .i64 (xs.l.length:Int)/\e 7 = .int .i64 (i:Int)) ⟨a,hV,by simpa [eZ] using o,fun _ _ _=>rfl,dK _,rfl,rfl,rfl,rfl⟩ ?_ ?_
 ·rintro i e h' _ hi ⟨a',gV,o',fr,yF,e1,e5,e6,e7⟩ K' hn hx hr hp;have hv:xs.l[i]?=some xs.l[i]:=ez hi;generalize xs.l[i]=s at hv
  have hlb:(eZ l (xs.l.take i)).length<=100000000:=by
   have h1:=pN (xs.l.take i) l;have h2:=length_take_le i xs.l;omega
  rw [F.dY.aT];simp only [e1,e5,e6,e7,aR,reduceAdd,reduceEqDiff,reduceIte,aZ hi,aV xs hi,jC hv,aj gV];refine ai (H9 o' (by unfold cE;omega) ?_);simp only [aR,reduceAdd,reduceEqDiff,reduceIte];have jb:=Bd (o:=l) hv;unfold DV at jb
  cases hq:(eZ l (xs.l.take i)).any fun x=>s==x with
  |true=>
   rw [hq,if_pos rfl] at jb;simp only [Bool.not_true,aK,aI hi (show xs.l.length<=cE by unfold cE;omega),an];exact hn _ _ ⟨a',gV,by rw [jb];exact o',fr,yF,e1,e5,e6,rfl⟩
  |false=>
   rw [hq,if_neg (by simp)] at jb;obtain ⟨a2,h2,p1,p2,p3,p4,p5,p6⟩:=o'.push iL pL (by omega) (bytes:=16) (by unfold cG;omega) s
   have gV2:h2.get V=some (.cells [a']):=by
    rw [p3 V (by omega) (fun hb=>by have:=o'.ge hb;omega)];exact gV
   have iJ:=OO p2 gV2;simp only [Bool.not_false,aL,e1,aj gV,aR,reduceAdd,reduceEqDiff,reduceIte,Wo,p1,iJ,aI hi (show xs.l.length<=cE by unfold cE;omega)];refine hn _ _ ⟨a2,by rw [Heap.aP,if_pos rfl],by rw [jb];exact p2.kM hVk _,fun c hc hcV=>?_,by rw [Heap.bp];omega,e1,e5,e6,rfl⟩;rw [Heap.aP,if_neg hcV,p3 c (by omega) (fun hb=>by have:=o'.ge hb;omega),fr c hc hcV]
 ·rintro e h' ⟨a',gV,o',fr,yF,e1,e5,e6,e7⟩ K' hx;rw [F.dY.aT];simp only [e6,e7,aR,reduceAdd,reduceEqDiff,reduceIte,aS];rw [hx,F.dY.aF];rw [jD (dK _)] at o';exact hK a' h' gV o' fr yF
def j5(o:List b8)(cs:List eV):List b8:=cs.foldl (fun o c=>eZ o c.args.l) o
def varsOf(r:aN):List b8:=j5 (eZ [] r.args.l) r.body.l
def aN.lJ(r:aN):Prop:=r.args.l.length<=1500/\r.body.l.length<=1500/\∀ c ∈ r.body.l,c.args.l.length<=1500
theorem FE{cs:List eV}{i:Nat}{c:eV}(hc:cs[i]?=some c):j5 o (cs.take (i+1))=eZ (j5 o (cs.take i)) c.args.l:=by
 unfold j5;rw [take_add_one,hc];simp
theorem zl:∀ (cs:List eV) (o:List b8),(∀ c ∈ cs,c.args.l.length<=1500)->(j5 o cs).length<=o.length+cs.length*1500
 |[],o,_=>by simp [j5]
 |c :: cs,o,h=>by
  have h1:=zl cs (eZ o c.args.l) fun d hd=>h d (mem_cons_of_mem _ hd);have h2:=pN c.args.l o;have h3:=h c mem_cons_self;show (j5 (eZ o c.args.l) cs).length<=_;rw [length_cons];omega
theorem JL{r:aN}(hf:r.lJ)(i:Nat):(j5 (eZ [] r.args.l) (r.body.l.take i)).length<=3000000:=by
 have h1:=zl (r.body.l.take i) (eZ [] r.args.l) fun c hc=>hf.2.2 c (mem_of_mem_take hc);have h2:=pN r.args.l [];have h3:=length_take_le i r.body.l;have h4:=length_take_le' i r.body.l;have:=hf.1;have:=hf.2.1;simp only [length_nil] at h2;omega
theorem dx{r:aN}(hf:r.lJ){h:Heap}{K:Out->Heap->Bool}(hK:∀ x:Sl b8,x.l=varsOf r->K (.ret (ak encS 1 x)) h=true) :
  Sem TP 100 [.agg [.str r.name,ak encS 1 r.args,ak bP 4 r.body]] h K:=by
 have main:Sem TP 100 [.agg [.str r.name,ak encS 1 r.args,ak bP 4 r.body]] Heap.empty (fun o h'=>yes (∃ v,∃ x:Sl b8,o = .ret v/\x.l=varsOf r/\Fz true h' v (ak encS 1 x))):=by
  refine F.wB ?_;rw [F.xR];have hb:eW (.agg [.str r.name,ak encS 1 r.args,ak bP 4 r.body])=some (aO r):=dg (jG r);simp only [hb,an,bJ,Heap.aJ];have g0:(Heap.alloc (Heap.alloc Heap.empty (.cells (aO r))) (.cells [.ax])).get 0=some (.cells (aO r)):=by simp [Heap.aQ,bJ]
  have g1:(Heap.alloc (Heap.alloc Heap.empty (.cells (aO r))) (.cells [.ax])).get 1=some (.cells [.ax]):=by simp [Heap.aQ,bJ]
  have gn:(Heap.alloc (Heap.alloc Heap.empty (.cells (aO r))) (.cells [.ax])).next=2:=rfl
  generalize (Heap.alloc (Heap.alloc Heap.empty (.cells (aO r))) (.cells [.ax]))=H at g0 g1 gn ⊢;simp only [aR,reduceAdd,reduceEqDiff,reduceIte,aj g0,aO];refine ai (Be g1 (by omega) (Own.nil (k:=2)) (by omega) (by have:=hf.1;simp only [length_nil];omega) fun a h1 q1 q2 q3 q4=>?_);have UO:h1.get 0=some (.cells (aO r)):=by rw [q3 0 (by omega) (by omega)];exact g0
  simp only [aR,reduceAdd,reduceEqDiff,reduceIte,aj UO,aO]
  refine aD 0 r.body.l.length (zero_le _) (fun i e h'=>∃ a',h'.get 1=some (.cells [a'])/\Own encS 1 2 h' a' (j5 (eZ [] r.args.l) (r.body.l.take i))/\2<=h'.next /\
   e 3 = .ptr 1 0/\e 4 = .func 142 [] [.ptr 1 0]/\e 14=ak bP 4 r.body/\e 15 = .int .i64 (r.body.l.length:Int)/\e 16 = .int .i64 (i:Int)) ⟨a,q1,by simpa [j5] using q2,by omega,rfl,rfl,rfl,rfl,rfl⟩ ?_ ?_
  ·rintro i e h' _ hi ⟨a',gV,o',yF,e3,e4,pO,oP,SL⟩ K' hn hx hr hp;have hv:r.body.l[i]?=some r.body.l[i]:=ez hi;generalize r.body.l[i]=c at hv;have afb:=hf.2.2 c (iz hv);obtain ⟨H2,hs,k1,ko,kn⟩:=cx (h:=h') (zs:=[.int .i64 0,.bool false,.str [],.ax]) (cs:=bP c) (n:=4) rfl rfl (iI c);have x2:bu h' H2:=⟨by omega,fun b hb=>ko b (by omega)⟩
   have gV2:H2.get 1=some (.cells [a']):=by rw [x2.get 1 (by omega)];exact gV
   rw [F.dx.aT];simp only [e3,e4,pO,oP,SL,aR,reduceAdd,reduceEqDiff,reduceIte,aZ hi,aV r.body hi,dO iH hv,hs];simp only [aR,reduceAdd,reduceEqDiff,reduceIte,aj k1,bP,fL,nil_append,cons_append];refine ai (Be (xs:=c.args) gV2 (by omega) (o'.ext x2) (by omega) (by have:=JL hf i;omega) fun a3 h3 s1 s2 s3 s4=>?_);simp only [aR,reduceAdd,reduceEqDiff,reduceIte,aI hi (show r.body.l.length<=cE by have:=hf.2.1;unfold cE;omega)];refine hn _ _ ⟨a3,s1,by rw [FE hv];exact s2,by omega,e3,e4,pO,oP,rfl⟩
  ·rintro e h' ⟨a',gV,o',yF,e3,e4,pO,oP,SL⟩ K' hx;rw [F.dx.aT];simp only [oP,SL,aR,reduceAdd,reduceEqDiff,reduceIte,aS];rw [hx,F.dx.aF];simp only [e3,aR,reduceAdd,reduceEqDiff,reduceIte,aj gV];rw [jD (dK _)] at o'
   obtain ⟨x,jO,fo⟩:=o'.LV (fun v y hy=>by
    simp only [encS,mem_cons,not_mem_nil,_root_.or_false] at hy
    subst hy;exact .scalar _ rfl)
   exact cu.2 ⟨a',x,rfl,jO,fo⟩
 refine main.frozen (by have:=fN r;simpa [aO,AV.cN,AV.pure] using this) fun o h' ho=>?_;obtain ⟨v,x,rfl,hx,hfz⟩:=cu.1 ho;exact ⟨v,_,rfl,hfz,hK x hx⟩
theorem cp(b o:Nat):br (.ptr b o)=some (.ptr b o):=rfl
theorem JM{d:TypeDesc}{k:AV}:∀ {es:List Entry} {i j:Nat} {v:AV},jN d k es i=some (some (j,v))->∃ n e,j=i+n/\es[n]?=some e
 |[],i,j,v,h=>by simp [jN] at h
 |e :: es,i,j,v,h=>by
  simp only [jN] at h;split at h
  ·cases h;exact ⟨0,e,rfl,rfl⟩
  ·obtain ⟨n,f,h1,h2⟩:=JM h;exact ⟨n+1,f,by omega,by simpa using h2⟩
  ·cases h
theorem Bf:∀ {es:List Entry} {i j:Nat} {e:Entry},(es.map (·.2.2)).Nodup->es[i]?=some e->oX (e.2.2:Int) es j=some (j+i)
 |[],i,j,e,_,h=>by simp at h
 |f :: es,0,j,e,_,h=>by
  simp only [getElem?_cons_zero,Option.some.injEq] at h;subst h;simp [oX]
 |f :: es,i+1,j,e,hn,h=>by
  rw [map_cons,nodup_cons] at hn;rw [getElem?_cons_succ] at h
  have hne:¬ ((f.2.2:Int)=(e.2.2:Int)):=fun heq=>hn.1 (by
   have:f.2.2=e.2.2:=by omega
   rw [this];exact List.mem_map_of_mem (iz h))
  rw [oX,if_neg hne,Bf hn.2 h];congr 1;omega
theorem OP{es:List Entry}{ck:Nat}{m:eP}(hb:h.get b=some (.map es ck))(hm:kr es m)(hB:j4 es ck){k:b8}{q:Int}(hk:m.find k=some q)(v:Int) :
  ∃ yE born,lX .string (.int .i64 0) (.map b) (.str k) h=some (.tuple [.int .i64 q,.int .i64 born],h)/\jh (.map b) (.int .i64 born) (.int .i64 v) h=some (h.set b (.map yE ck))/\kr yE (m.r9 k v)/\j4 yE ck:=by
 obtain ⟨r,hr,vE⟩:=kr.jN (k:=k) 0 hm
 cases r with
 |none=>simp only at vE;rw [hk] at vE;cases vE
 |some jv=>
  obtain ⟨n,q',hj,b',c,_,e⟩:=vE;obtain ⟨j,w⟩:=jv;simp only [Nat.zero_add] at hj c;subst hj;subst c;rw [hk] at b';cases b';obtain ⟨n,f,h1,h2⟩:=JM hr;rw [Nat.zero_add] at h1;subst h1;refine ⟨fA es j (.int .i64 v),(f.2.2:Int),?_,?_,e v,hB.set _ _⟩
  ·simp only [lX,hb,q8,qZ,if_true,hr,G8,h2]
  ·have:=Bf (j:=0) hB.nodup h2;rw [Nat.zero_add] at this;simp only [jh,hb,this]
structure fK (hs:List b8) (h:Heap) (M:Nat) (ks:List b8) (lv:eA.Lv):Prop where
 ex:∃ es ck m,h.get M=some (.map es ck)/\kr es m/\j4 es ck/\m.map (·.1)=ks/\∀ x,m.find x=if x ∈ hs then some (lv x:Int) else none
theorem fK.gz(l:fK hs h M ks lv)(he:h'.get M=h.get M):fK hs h' M ks lv:=by
 obtain ⟨es,ck,m,h1,h2⟩:=l.ex;exact ⟨es,ck,m,by rw [he];exact h1,h2⟩
def fI(r:aN)(c:eV):eA.Edge:=⟨c.name,if c.neg then 1 else 0,r.name⟩
def mJ(hs:List b8)(r:aN)(c:eV):List eA.Edge:=if c.kind=0/\c.name ∈ hs then [fI r c] else []
def nS(hs:List b8)(r:aN)(cs:List eV):List eA.Edge:=cs.flatMap (mJ hs r)
def jy(hs:List b8)(rs:List aN):List eA.Edge:=rs.flatMap fun r=>nS hs r r.body.l
theorem Bg{r:aN}{cs:List eV}{c:eV}(hc:cs[j]?=some c):nS hs r (cs.take (j+1))=nS hs r (cs.take j)++mJ hs r c:=by
 unfold nS;rw [take_add_one,hc];simp
theorem DW{rs:List aN}{i:Nat}{r:aN}(hr:rs[i]?=some r):jy hs (rs.take (i+1))=jy hs (rs.take i)++nS hs r r.body.l:=by
 unfold jy;rw [take_add_one,hr];simp
theorem fK.look(l:fK hs h M ks lv)(k:b8) :
  dW .string (.int .i64 0) true (.map M) (.str k) h=some (.tuple [.int .i64 (if k ∈ hs then (lv k:Int) else 0),.bool (decide (k ∈ hs))]):=by
 obtain ⟨es,ck,m,h1,h2,h3,h4,h5⟩:=l.ex;rw [se h1 h2,h5];by_cases hk:k ∈ hs<;>simp [hk]
theorem fK.Wp(l:fK hs h M ks lv)(k:b8) :
  dW .string (.int .i64 0) false (.map M) (.str k) h=some (.int .i64 (if k ∈ hs then (lv k:Int) else 0)):=by
 obtain ⟨es,ck,m,h1,h2,h3,h4,h5⟩:=l.ex;rw [uK h1 h2,h5];by_cases hk:k ∈ hs<;>simp [hk]
theorem fK.afc{e:eA.Edge}(l:fK hs h M ks lv)(hh:e.h ∈ hs)(hlt:lv e.h<lv e.b+e.w) :
  ∃ born h',lX .string (.int .i64 0) (.map M) (.str e.h) h=some (.tuple [.int .i64 (lv e.h:Int),.int .i64 born],h)/\jh (.map M) (.int .i64 born) (.int .i64 ((lv e.b+e.w:Nat):Int)) h=some h' /\
   fK hs h' M ks (eA.iq lv e)/\(∀ b,b≠M->h'.get b=h.get b)/\h'.next=h.next:=by
 obtain ⟨es,ck,m,h1,h2,h3,h4,h5⟩:=l.ex;have hf:m.find e.h=some (lv e.h:Int):=by rw [h5,if_pos hh]
 obtain ⟨yE,born,q1,q2,q3,q4⟩:=OP h1 h2 h3 hf ((lv e.b+e.w:Nat):Int);refine ⟨born,_,q1,q2,⟨yE,ck,_,by rw [Heap.aP,if_pos rfl],q3,q4,?_,fun x=>?_⟩,fun b hb=>by rw [Heap.aP,if_neg hb],Heap.bp _ _ _⟩
 ·rw [JK,if_pos (mem_map.2 ⟨_,rE hf,rfl⟩)];exact h4
 ·rw [vL];unfold eA.iq;rw [if_pos hlt];by_cases hx:x=e.h
  ·subst hx;rw [if_pos rfl,if_pos hh,if_pos rfl]
  ·rw [if_neg hx,if_neg hx,h5]
theorem LY{P:Nat}{A:AV}{rules:Sl aN}{N:Nat}(hP:h.get P=some (.cells [ak aO 3 rules,A,.map M]))(hl:fK hs h M ks lv)(SM:P<h.next)(XK:M<h.next)
  (hr:rules.l.length<=60) (hb:∀ r ∈ rules.l,r.body.l.length<=20/\r.name ∈ hs) (hN:∀ x,lv x<=N) (hNb:N<=1000000)
  (hK:∀ h',fK hs h' M ks (eA.round (jy hs rules.l) lv)->(∀ b,b<h.next->b≠M->h'.get b=h.get b)->h.next<=h'.next->K (.ret (.bool (!decide (eA.dA (jy hs rules.l) lv)))) h'=true):Sem TP 141 [.ptr P 0] h K:=by
 have hPM:P≠M:=fun e=>by
  obtain ⟨es,ck,m,h1,_⟩:=hl.ex;rw [e,h1] at hP;cases hP
 refine F.sr ?_;rw [F.tD];simp only [aR,reduceAdd,reduceEqDiff,reduceIte,cp,aj hP]
 refine aD 0 rules.l.length (zero_le _) (fun i e h'=>∃ cur ch,eA.RS lv cur (jy hs (rules.l.take i)) ch/\fK hs h' M ks cur/\(∀ x,cur x<=N+i*20)/\(∀ b,b<h.next->b≠M->h'.get b=h.get b)/\h.next<=h'.next /\
  e 0 = .ptr P 0/\e 3 = .bool ch/\e 13=ak aO 3 rules/\e 14 = .int .i64 (rules.l.length:Int)/\e 15 = .int .i64 (i:Int)) ⟨lv,false,eA.RS.nil lv,hl,by simpa using hN,fun _ _ _=>rfl,dK _,rfl,rfl,rfl,rfl,rfl⟩ ?_ ?_
 ·rintro i e h' _ hi ⟨cur,ch,rs,la,bd,fr,yF,e0,e3,oQ,pO,oP⟩ K' hn hx yo hp;have hv:rules.l[i]?=some rules.l[i]:=ez hi;generalize rules.l[i]=r at hv;obtain ⟨ab4,hin⟩:=hb r (iz hv);obtain ⟨H,DX,g1,go,gn⟩:=cx (h:=h') (zs:=[.str [],.ax,.ax]) (cs:=aO r) (n:=3) rfl rfl (jG r);rw [F.bt.aT];simp only [e0,e3,oQ,pO,oP,aR,reduceAdd,reduceEqDiff,reduceIte,aZ hi,aV rules hi,dO gu hv,DX];simp only [aR,reduceAdd,reduceEqDiff,reduceIte,aj g1,aO]
  refine aD 0 r.body.l.length (zero_le _) (fun j e h2=>∃ cur ch,eA.RS lv cur (jy hs (rules.l.take i)++nS hs r (r.body.l.take j)) ch/\fK hs h2 M ks cur/\(∀ x,cur x<=N+i*20+j)/\(∀ b,b<h.next->b≠M->h2.get b=h.get b)/\h2.get h'.next=some (.cells (aO r))/\h'.next<h2.next /\
   e 0 = .ptr P 0/\e 3 = .bool ch/\e 5 = .ptr h'.next 0/\e 13=ak aO 3 rules/\e 14 = .int .i64 (rules.l.length:Int)/\e 15 = .int .i64 (i:Int)/\e 20=ak bP 4 r.body/\e 21 = .int .i64 (r.body.l.length:Int)/\e 22 = .int .i64 (j:Int))
   ⟨cur,ch,by simpa [nS] using rs,la.gz (go M (by omega)),by simpa using bd,fun b hb1 hb2=>by rw [go b (by omega)];exact fr b hb1 hb2,g1,by omega,e0,e3,rfl,oQ,pO,oP,rfl,rfl,rfl⟩ ?_ ?_
  ·rintro j e h2 _ hj ⟨cur,ch,rs,la,bd,fr,gR,qj,e0,e3,e5,oQ,pO,oP,Ia,Bh,B2⟩ K2 Rb fo qL DY;have hc:r.body.l[j]?=some r.body.l[j]:=ez hj;generalize r.body.l[j]=c at hc;obtain ⟨H2,qW,k1,ko,kn⟩:=cx (h:=h2) (zs:=[.int .i64 0,.bool false,.str [],.ax]) (cs:=bP c) (n:=4) rfl rfl (iI c);have SN:fK hs H2 M ks cur:=la.gz (ko M (by omega));have gP2:H2.get P=some (.cells [ak aO 3 rules,A,.map M]):=by rw [ko P (by omega),fr P SM hPM];exact hP
   have YT:H2.get h'.next=some (.cells (aO r)):=by rw [ko _ (by omega)];exact gR
   have fr2:∀ b,b<h.next->b≠M->H2.get b=h.get b:=fun b hb1 hb2=>by rw [ko b (by omega)];exact fr b hb1 hb2
   have hbig:r.body.l.length<=cE:=by unfold cE;omega
   have iJ:=Bg (hs:=hs) (r:=r) hc;rw [F.bt.dm];simp only [e0,e3,e5,oQ,pO,oP,Ia,Bh,B2,aR,reduceAdd,reduceEqDiff,reduceIte,aZ hj,aV r.body hj,dO iH hc,qW];simp only [aR,reduceAdd,reduceEqDiff,reduceIte,aj k1,cp,aj gP2,bP,SN.look,cI];by_cases k0:c.kind=0
   ·simp only [fh k0,Bool.not_true,aK];by_cases hm:c.name ∈ hs
    ·have PO:mJ hs r c = [fI r c]:=(by unfold mJ;rw [if_pos ⟨k0,hm⟩]);rw [PO] at iJ;simp only [fh hm,Bool.not_true,aK,if_pos hm,aR,reduceAdd,reduceEqDiff,reduceIte,aj k1,bP]
     have J:∀ e':Env,e' 0 = .ptr P 0->e' 3 = .bool ch->e' 5 = .ptr h'.next 0->e' 8 = .int .i64 ((cur c.name+(fI r c).w:Nat):Int)->e' 13=ak aO 3 rules->e' 14 = .int .i64 (rules.l.length:Int)->e' 15 = .int .i64 (i:Int)->e' 20=ak bP 4 r.body->e' 21 = .int .i64 (r.body.l.length:Int)->e' 22 = .int .i64 (j:Int) ->
       F.bt.J0 K2 ⟨e',71,[],H2⟩=true:=by
      intro e' e0 e3 e5 e8 oQ pO oP Ia Bh B2;rw [F.bt.Du];simp only [e0,e5,e8,aR,reduceAdd,reduceEqDiff,reduceIte,cp,aj gP2,aj YT,aO,SN.Wp,if_pos hin];by_cases hlt:cur r.name<cur c.name+(fI r c).w
      ·obtain ⟨born,h3,q1,q2,q3,q4,q5⟩:=SN.afc (e:=fI r c) hin hlt;have q1':lX .string (.int .i64 0) (.map M) (.str r.name) H2=some (.tuple [.int .i64 (cur r.name:Int),.int .i64 born],H2):=q1;have q2':jh (.map M) (.int .i64 born) (.int .i64 ((cur c.name+(fI r c).w:Nat):Int)) H2=some h3:=q2;simp only [aZ hlt,aL,e0,e5,e8,B2,aR,reduceAdd,reduceEqDiff,reduceIte,cp,aj gP2,aj YT,aO,q1',q2',aI hj hbig];refine Rb _ _ ⟨_,true,?_,q3,fun x=>?_,fun b hb1 hb2=>by rw [q4 b hb2];exact fr2 b hb1 hb2,?_,by omega,e0,rfl,e5,oQ,pO,oP,Ia,Bh,rfl⟩
       ·rw [iJ,<- append_assoc];exact rs.up hlt
       ·have:=eA.tU (e:=fI r c) bd (by unfold fI;simp only;split<;>omega) x;omega
       ·rw [q4 _ (by omega)];exact YT
      ·simp only [eT (by omega:¬ ((cur r.name:Int)<((cur c.name+(fI r c).w:Nat):Int))),aK,B2,aI hj hbig,an];exact Rb _ _ ⟨cur,ch,by rw [iJ,<- append_assoc];exact rs.same hlt,SN,fun x=>by have:=bd x;omega,fr2,YT,by omega,e0,e3,e5,oQ,pO,oP,Ia,Bh,rfl⟩
     cases hng:c.neg with
     |true=>
      have hw:(fI r c).w=1:=(by unfold fI;simp [hng]);have DZ:=aI (i:=cur c.name) (n:=2000000) (by have:=bd c.name;omega) (by unfold cE;omega);simp only [aL,DZ,an];exact J _ e0 e3 e5 (by rw [hw];rfl) oQ pO oP Ia Bh B2
     |false=>
      have hw:(fI r c).w=0:=(by unfold fI;simp [hng]);simp only [aK];exact J _ e0 e3 e5 (by rw [hw];rfl) oQ pO oP Ia Bh B2
    ·have PO:mJ hs r c = []:=(by unfold mJ;rw [if_neg (fun h=>hm h.2)]);rw [PO,append_nil] at iJ;simp only [eT hm,Bool.not_false,aL,aI hj hbig,an];exact Rb _ _ ⟨cur,ch,by rw [iJ];exact rs,SN,fun x=>by have:=bd x;omega,fr2,YT,by omega,e0,e3,e5,oQ,pO,oP,Ia,Bh,rfl⟩
   ·have PO:mJ hs r c = []:=(by unfold mJ;rw [if_neg (fun h=>k0 h.1)]);rw [PO,append_nil] at iJ;simp only [eT k0,Bool.not_false,aL,aI hj hbig,an];exact Rb _ _ ⟨cur,ch,by rw [iJ];exact rs,SN,fun x=>by have:=bd x;omega,fr2,YT,by omega,e0,e3,e5,oQ,pO,oP,Ia,Bh,rfl⟩
  ·rintro e h2 ⟨cur,ch,rs,la,bd,fr,gR,qj,e0,e3,e5,oQ,pO,oP,Ia,Bh,B2⟩ K2 fo;rw [F.bt.dm];simp only [Bh,B2,aR,reduceAdd,reduceEqDiff,reduceIte,aS];rw [fo,F.bt.cq];simp only [oP,aR,reduceAdd,reduceEqDiff,reduceIte,aI hi (show rules.l.length<=cE by unfold cE;omega),an];rw [jD (dK _),<- DW hv] at rs;exact hn _ _ ⟨cur,ch,rs,la,fun x=>by have:=bd x;omega,fr,by omega,e0,e3,oQ,pO,rfl⟩
 ·rintro e h' ⟨cur,ch,rs,la,bd,fr,yF,e0,e3,oQ,pO,oP⟩ K' hx;rw [F.bt.aT];simp only [pO,oP,aR,reduceAdd,reduceEqDiff,reduceIte,aS];rw [hx,F.bt.aF];rw [jD (dK _)] at rs;obtain ⟨d1,d2⟩:=rs.done;simp only [bL,reduceEqDiff,reduceIte,e3];rw [d2];rw [d1] at la;exact hK h' la fr yF
theorem ab6(x:Sl aN)(A M:Nat):iD [.ax,.jJ,.jJ] [(0,1),(1,1),(2,1)] [ak aO 3 x,.map A,.map M]=some (.agg [ak aO 3 x,.map A,.map M]):=by cases x<;>rfl
theorem ab7(x:Sl aN)(A M:Nat):eW (.agg [ak aO 3 x,.map A,.map M])=some [ak aO 3 x,.map A,.map M]:=dg (by simp only [bx,fR];rfl)
def D2(m:eP)(nm:b8)(n:Nat):Option eP:=match m.find nm with
 |none=>some (m.r9 nm n)
 |some k=>if k=(n:Int) then some (m.r9 nm n) else none
def oB:List eV->eP->Option eP
 |[],m=>some m
 |c :: cs,m=>bif gX c then (if c.kind=0 then (match D2 m c.name c.args.l.length with|none=>none|some m'=>oB cs m') else oB cs m) else none
def dR:List aN->eP->Option eP
 |[],m=>some m
 |r :: rs,m=>bif mV r.name r.args.l then (match D2 m r.name r.args.l.length with
   |none=>none
   |some m1=>if 20<r.body.l.length then none else if 12<(varsOf r).length then none else match oB r.body.l m1 with
    |none=>none
    |some m2=>dR rs m2) else none
theorem Gt{l:List α}{i:Nat}{a:α}(h:l[i]?=some a):l.drop i=a :: l.drop (i+1):=by
 have hi:i<l.length:=(kT.1 h).1;rw [drop_eq_getElem_cons hi];rw [ez hi] at h;cases h;rfl
theorem fK.add(l:fK hs h M ks (fun _=>0))(hn:ks.Nodup)(nm:b8) :
  ∃ h' ks',eN .string (.map M) (.str nm) (.int .i64 0) h=some h'/\fK (hs++[nm]) h' M ks' (fun _=>0)/\ks'.Nodup/\(∀ b,b≠M->h'.get b=h.get b)/\h'.next=h.next:=by
 obtain ⟨es,ck,m,h1,h2,h3,h4,h5⟩:=l.ex;obtain ⟨yE,HG,q1,q2⟩:=Da h1 h2 nm 0;have g:(h.set M (.map yE HG)).get M=some (.map yE HG):=by rw [Heap.aP,if_pos rfl]
 refine ⟨_,(m.r9 nm 0).map (·.1),q1,⟨yE,HG,_,g,q2,xj h1 h3 q1 g,rfl,fun x=>?_⟩,Gr (by rw [h4];exact hn) nm 0,fun b hb=>by rw [Heap.aP,if_neg hb],Heap.bp _ _ _⟩;rw [vL,h5];by_cases hx:x=nm
 ·subst hx;simp
 ·simp [hx]
theorem fK.mem(l:fK hs h M ks lv)(x:b8):x ∈ ks↔x ∈ hs:=by
 obtain ⟨es,ck,m,h1,h2,h3,h4,h5⟩:=l.ex;rw [<- h4];constructor
 ·intro hx;obtain ⟨p,hp,rfl⟩:=mem_map.1 hx;have h6:=h5 p.1;by_cases hh:p.1 ∈ hs
  ·exact hh
  ·rw [if_neg hh] at h6;unfold eP.find at h6;rw [map_eq_none_iff,find?_eq_none] at h6;exact absurd (h6 p hp) (by simp)
 ·intro hx;have h6:=h5 x;rw [if_pos hx] at h6;exact mem_map.2 ⟨_,rE h6,rfl⟩
theorem fK.len(l:fK hs h M ks lv):bX .map (.map M) h=some (.int .i64 (ks.length:Int)):=by
 obtain ⟨es,ck,m,h1,h2,h3,h4,h5⟩:=l.ex
 have:∀ (es:List Entry) (m:eP),kr es m->es.length=m.length:=by
  intro es
  induction es with
  |nil=>intro m hm;cases m with
   |nil=>rfl
   |cons p m=>exact hm.elim
  |cons e es ih=>intro m hm;cases m with
   |nil=>exact hm.elim
   |cons p m=>rw [length_cons,length_cons,ih m hm.2.2]
 have hl:=this es m h2;rw [<- h4,length_map,<- hl];simp [bX,mB,h1]
theorem D3:∀ {E:List eA.Edge} {L:eA.Lv} {N:Nat},(∀ e ∈ E,e.w<=1)->(∀ x,L x<=N)->∀ x,E.foldl eA.iq L x<=N+E.length
 |[],L,N,_,h,x=>h x
 |e :: E,L,N,hw,h,x=>by
  have:=D3 (E:=E) (L:=eA.iq L e) (N:=N+1) (fun f hf=>hw f (mem_cons_of_mem _ hf)) (eA.tU h (hw e mem_cons_self)) x;rw [length_cons];show E.foldl eA.iq (eA.iq L e) x<=_;omega
theorem D5(hs:List b8)(r:aN):∀ cs:List eV,(nS hs r cs).length<=cs.length
 |[]=>dK _
 |c :: cs=>by
  have:=D5 hs r cs;have h1:(mJ hs r c).length<=1:=by unfold mJ;split<;>simp
  show (mJ hs r c++nS hs r cs).length<=_;rw [length_append,length_cons];omega
theorem Gu(hs:List b8):∀ rs:List aN,(∀ r ∈ rs,r.body.l.length<=20)->(jy hs rs).length<=rs.length*20
 |[],_=>dK _
 |r :: rs,h=>by
  have h1:=Gu hs rs fun q hq=>h q (mem_cons_of_mem _ hq);have h2:=D5 hs r r.body.l;have h3:=h r mem_cons_self;show (nS hs r r.body.l++jy hs rs).length<=_;rw [length_append,length_cons];omega
theorem uN{rs:List aN}{e:eA.Edge}(he:e ∈ jy hs rs):∃ r ∈ rs,∃ c ∈ r.body.l,c.kind=0/\c.name ∈ hs/\e=fI r c:=by
 obtain ⟨r,hr,he⟩:=mem_flatMap.1 he;obtain ⟨c,hc,he⟩:=mem_flatMap.1 he;unfold mJ at he;split at he
 ·rename_i h;rw [mem_singleton] at he;exact ⟨r,hr,c,hc,h.1,h.2,he⟩
 ·cases he
theorem LZ(r:aN)(c:eV):(fI r c).w<=1:=by unfold fI;simp only;split<;>omega
theorem jo:∀ {rs:List aN} {m m':eP},dR rs m=some m'->∀ r ∈ rs,mV r.name r.args.l=true/\r.body.l.length<=20/\(varsOf r).length<=12
 |[],_,_,_,r,hr=>by cases hr
 |r0 :: rs,m,m',h,r,hr=>by
  rw [dR] at h
  cases ha:mV r0.name r0.args.l with
  |false=>rw [ha] at h;cases h
  |true=>
   rw [ha,cond_true] at h;split at h
   ·cases h
   ·split at h
    ·cases h
    ·split at h
     ·cases h
     ·split at h
      ·cases h
      ·rcases mem_cons.1 hr with rfl|hr
       ·exact ⟨ha,by omega,by omega⟩
       ·exact jo h r hr
def bA(rs:List aN):List b8:=rs.map (·.name)
def bO(rs:List aN):List eA.Edge:=jy (bA rs) rs
structure k8 (rs:List aN):Prop where
 lJ:rs.length<=60
 go:∃ m,dR rs []=some m
 lev:∃ k,eA.dA (bO rs) (eA.iter (bO rs) k)
theorem yc{rs:List aN}(tP:rs.length<=60)(vK:∀ r ∈ rs,r.body.l.length<=20):∀ k x,eA.iter (bO rs) k x<=k*1200
 |0,x=>zero_le _
 |k+1,x=>by
  have h1:=D3 (E:=bO rs) (L:=eA.iter (bO rs) k) (N:=k*1200) (fun e he=>by obtain ⟨r,_,c,_,_,_,rfl⟩:=uN he;exact LZ r c) (yc tP vK k) x;have h2:(bO rs).length<=rs.length*20:=Gu _ rs vK;show (bO rs).foldl eA.iq (eA.iter (bO rs) k) x<=_;omega
def OQ(m:eP)(nm:b8)(n:Nat):Bool:=match m.find nm with|none=>true|some k=>decide (k=(n:Int))
theorem Gv(m:eP)(nm:b8)(n:Nat):D2 m nm n=if OQ m nm n=true then some (m.r9 nm n) else none:=by
 unfold D2 OQ
 cases m.find nm with
 |none=>rfl
 |some k=>by_cases h:k=(n:Int)<;>simp [h]
theorem JN(n:Int):bx (encI n)=true:=rfl
theorem Rc(n:Int):fB [.int .i64 0] [(0,1)] [.int .i64 n]=some (encI n):=rfl
theorem JO(h:ey s=true):s.length<=12:=by
 cases s with
 |nil=>exact zero_le _
 |cons c s=>
  simp only [ey,and_eq_true] at h;simp only [decide_eq_true_eq] at h;omega
theorem yd{xs:List b8}(h:mV nm xs=true):ey nm=true:=by
 unfold mV at h;rw [and_eq_true] at h;exact h.1
theorem fK.aff(l:fK hs h M ks lv)(Cs:ks.Nodup)(hlen:∀ s ∈ ks,s.length<=1000) :
  ∃ es ck,h.get M=some (.map es ck)/\si ck es=true/\es.map keyBytes=ks/\es.length=ks.length:=by
 obtain ⟨es,ck,m,h1,h2,h3,h4,h5⟩:=l.ex;have hk:es.map keyBytes=ks:=by rw [Nv h2,h4]
 refine ⟨es,ck,h1,Gs (fun e he=>?_) (by rw [hk];exact Cs) h3.nodup,hk,by rw [<- hk,length_map]⟩;obtain ⟨p,hp,q1,q2⟩:=h2.mem e he;exact ⟨⟨p.1,q1,hlen _ (by rw [<- h4];exact List.mem_map_of_mem hp)⟩,h3.lt e he⟩
def cU(t:Sl Int):List AV:=[ak encI 1 t]
theorem rF(t:Sl Int):(cU t).length=1:=rfl
theorem nj(t:Sl Int):AV.cN (cU t)=true:=by simp [cU,AV.cN,b7 jd]
theorem gK{l:List (Sl Int)}{i:Nat}{t:Sl Int}(ht:l[i]?=some t):ag none (.ef (l.flatMap cU) (i*1)) h=some (ak encI 1 t):=by
 rw [xO rF ht];rfl
section
variable {α:Type} {enc:α->List AV} {sz k:Nat}
end
abbrev PB:=Nat×List Int
def Ar(p:PB):List AV:=[.slice p.1 0 p.2.length 1]
theorem D6(p:PB):(Ar p).length=1:=rfl
theorem Re(p:PB):bx (Ar p)=true:=rfl
structure uO (k:Nat) (h:Heap) (a:AV) (ps:List PB):Prop where
 own:Own Ar 1 k h a ps
 cell:∀ p ∈ ps,k<=p.1/\p.1<h.next/\cL a≠some p.1/\h.get p.1=some (.cells (p.2.map iv))
theorem uO.nil(k:Nat)(h:Heap):uO k h .ax []:=⟨.nil,fun p hp=>by cases hp⟩
theorem uO.ext{k:Nat}{h h':Heap}{a:AV}{ps:List PB}(n:uO k h a ps)(hx:bu h h'):uO k h' a ps:=
 ⟨n.own.ext hx,fun p hp=>by
  obtain ⟨h1,h2,h3,h4⟩:=n.cell p hp
  exact ⟨h1,Nat.lt_of_lt_of_le h2 hx.next,h3,by rw [hx.get _ h2];exact h4⟩⟩
theorem uO.yB{gJ:Bool}{ps:List PB}(n:uO k h a ps):∃ x:Sl (Sl Int),x.l.map Sl.l=ps.map (·.2)/\Fz gJ h a (ak cU 1 x):=by
 obtain ⟨o,hc⟩:=n
 cases o with
 |nil=>exact ⟨none,rfl,.scalar _ rfl⟩
 |row b ps h1 h2 h3=>
  refine ⟨some (ps.map fun p=>some p.2),by simp [List.map_map,Function.comp_def],?_⟩
  have e1:ps.flatMap Ar=ps.map fun p=>AV.slice p.1 0 p.2.length 1:=by
   induction ps with
   |nil=>rfl
   |cons p ps ih=>rw [flatMap_cons,map_cons];exact congrArg _ (by
     clear ih h3 hc
     induction ps with
     |nil=>rfl
     |cons q ps ih=>rw [flatMap_cons,map_cons,ih];rfl)
  have e2:(ps.map fun p=>(some p.2:Sl Int)).flatMap cU=ps.map fun p=>ak encI 1 (some p.2):=by
   clear h3 hc e1
   induction ps with
   |nil=>rfl
   |cons q ps ih=>rw [map_cons,flatMap_cons,map_cons,ih];rfl
  rw [e1] at h3
  have hf:Fz gJ h (.slice b 0 ps.length 1) (.au (ps.map fun p=>ak encI 1 (some p.2)) 0 ps.length 1):=by
   refine .slice b 0 ps.length 1 _ _ h3 (by simp) fun i x y hx hy=>?_;rw [getElem?_map] at hx hy;obtain ⟨p,hp,rfl⟩:=map_eq_some_iff.1 hx;rw [hp] at hy;cases hy;exact vN (hc p (iz hp)).2.2.2
  have:ak cU 1 (some (ps.map fun p=>(some p.2:Sl Int))) = .au (ps.map fun p=>ak encI 1 (some p.2)) 0 ps.length 1:=by
   simp only [ak,e2,length_map]
  rw [this];exact hf
theorem uO.push{k:Nat}{h:Heap}{a:AV}{ps:List PB}(n:uO k h a ps)(hk:k<=h.next)(hroom:(ps.length+1)*24<=cG)(p:PB)(p1:k<=p.1)(p2:p.1<h.next)(p3:cL a≠some p.1)(p4:h.get p.1=some (.cells (p.2.map iv))) :
  ∃ a' h',bY 1 24 a (.slice h.next 0 1 1) (h.alloc (.cells (Ar p)))=some (a',h')/\uO k h' a' (ps++[p])/\h.next<=h'.next/\(∀ c,c<h.next->cL a≠some c->h'.get c=h.get c)/\(∀ h0,bu h0 h->h0.next<=k->bu h0 h')/\∀ c,cL a'=some c->h.next<=c:=by
 obtain ⟨a',h',e1,o1,f1,n1,x1,b1⟩:=n.own.push D6 Re hk hroom p;refine ⟨a',h',e1,⟨o1,fun q hq=>?_⟩,n1,f1,x1,b1⟩
 have nW:k<=q.1/\q.1<h.next/\cL a≠some q.1/\h.get q.1=some (.cells (q.2.map iv)):=by
  rcases mem_append.1 hq with hq|hq
  ·exact n.cell q hq
  ·rw [mem_singleton] at hq;subst hq;exact ⟨p1,p2,p3,p4⟩
 obtain ⟨q1,q2,q3,q4⟩:=nW;exact ⟨q1,by omega,fun hb=>by have:=b1 _ hb;omega,by rw [f1 _ q2 q3];exact q4⟩
theorem uO.at_{ps:List PB}(n:uO k h a ps){i:Nat}{p:PB}(hp:ps[i]?=some p) :
  ∃ b,(∀ q:IntKind,dN 1 a (.int q (i:Int))=some (.ptr b (i*1)))/\b<h.next/\(∀ h',bu h h'->ag none (.ptr b (i*1)) h'=some (.slice p.1 0 p.2.length 1)):=by
 obtain ⟨b,b1,b2,b3,_,b5⟩:=n.own.get D6 hp;refine ⟨b,b3,b2,fun h' hx=>?_⟩;obtain ⟨b',_,_,c3,_,c5⟩:=(n.own.ext hx).get D6 hp;obtain rfl:b=b':=by have:=b3 .i64;rw [c3 .i64] at this;cases this;rfl
 have:=c5 0 (by omega);rw [Nat.add_zero] at this;rw [this];rfl
theorem Rf{l:List Int}(hb:h.get b=some (.cells (l.map iv)))(Li:b<h.next)(hl:l.length<=1000000)(x:Int) :
  ∃ b' h',bY 1 8 (.slice b 0 l.length 1) (.slice h.next 0 1 1) (h.alloc (.cells [.int .i64 x]))=some (.slice b' 0 (l++[x]).length 1,h')/\h'.get b'=some (.cells ((l++[x]).map iv))/\(∀ c,c<h.next->c≠b->h'.get c=h.get c)/\h.next<=b'/\b'<h'.next:=by
 have hm:cG=140737488355328:=rfl;have g:(h.alloc (.cells [.int .i64 x])).get h.next=some (.cells [.int .i64 x]):=aA _ _
 have g2:(h.alloc (.cells [.int .i64 x])).get b=some (.cells (l.map iv)):=by rw [Heap.aQ,if_neg (by omega)];exact hb
 refine ⟨h.next+1,((h.alloc (.cells [.int .i64 x])).set b .dead).alloc (.cells ((l++[x]).map iv)),?_,?_,fun c hc hcb=>?_,by omega,?_⟩
 ·have hf:gQ 1 1 (.slice h.next 0 1 1) (h.alloc (.cells [.int .i64 x]))=some [.int .i64 x]:=by simp [gQ,g]
  simp only [bY,lD,hf,if_true,g2];rw [if_neg (by decide),if_pos (by simp [bx,AV.one];omega)];simp only [Heap.bp,Heap.aJ,drop_zero,Nat.mul_one];congr 2
  ·simp
  ·congr 2;rw [jD (by simp),map_append];rfl
 ·have:=aA ((h.alloc (.cells [.int .i64 x])).set b .dead) (.cells ((l++[x]).map iv))
  rwa [Heap.bp,Heap.aJ] at this
 ·rw [Heap.aQ,Heap.bp,Heap.aJ,if_neg (by omega),Heap.aP,if_neg hcb,Heap.aQ,if_neg (by omega)]
 ·rw [Heap.aJ,Heap.bp,Heap.aJ];omega
theorem Ib(h1:1<=n){i:Nat}(h:i<=k):n ^ i<=n ^ k:=Nat.pow_le_pow_right h1 h
theorem uQ(n:Nat):∀ (a b:List Int) (r:Nat),tN n (a++b) r=tN n b (tN n a r)
 |[],_,_=>rfl
 |x :: a,b,r=>uQ n a b _
theorem Ny{n:Nat}:∀ (l:List Int) (r i:Nat),iY n l=true->r<n ^ i->tN n l r<n ^ (i+l.length)
 |[],r,i,_,h=>h
 |x :: l,r,i,hb,h=>by
  simp only [iY,all_cons,and_eq_true,not_eq_true',decide_eq_false_iff_not] at hb
  have:r*n+x.toNat<n ^ (i+1):=by
   have h1:(r+1)*n<=n ^ i*n:=mul_le_mul_right n h;rw [succ_mul] at h1;rw [Nat.pow_succ];omega
  have:=Ny l (r*n+x.toNat) (i+1) (by rw [iY,List.all_eq_true];simpa using hb.2) this;rw [length_cons,show i+(l.length+1)=i+1+l.length by omega];exact this
theorem qO{l:List Int}(hb:iY n l=true):kS n l<n ^ l.length:=by
 have:=Ny l 0 0 hb (by simp);rw [Nat.zero_add] at this;exact this
theorem Rg{l:List Int}{i:Nat}(hv:l[i]?=some v):kS n (l.take (i+1))=kS n (l.take i)*n+v.toNat:=by
 rw [kS,take_add_one,hv,uQ];rfl
theorem UP{n:Int}{l:List Int}(hb:iY n l=true)(i:Nat):iY n (l.take i)=true:=by
 unfold iY at hb ⊢;rw [List.all_eq_true] at hb ⊢;exact fun x hx=>hb x (mem_of_mem_take hx)
theorem Rh{n:Int}{l:List Int}(hb:iY n l=true){i:Nat}(hv:l[i]?=some v):0<=v/\v<n:=by
 unfold iY at hb;rw [List.all_eq_true] at hb;have:=hb v (iz hv);simp at this;omega
theorem zm{l:List Int}(hb:iY n l=true)(h1:1<=n)(hc:n ^ l.length<=4096){i:Nat}(hv:l[i]?=some v) :
  aG .mul (.int .i64 ((kS n (l.take i):Nat):Int)) (.int .i64 (n:Int))=some (.int .i64 ((kS n (l.take i)*n:Nat):Int)) /\
  aG .add (.int .i64 ((kS n (l.take i)*n:Nat):Int)) (.int .i64 v)=some (.int .i64 ((kS n (l.take (i+1)):Nat):Int)):=by
 have hi:i<l.length:=(kT.1 hv).1;have hlt:kS n (l.take (i+1))<n ^ (l.take (i+1)).length:=qO (UP hb _);have hp:n ^ (l.take (i+1)).length<=4096:=Nat.le_trans (Ib h1 (by rw [length_take];omega)) hc;obtain ⟨v0,v1⟩:=Rh hb hv;have he:kS n (l.take (i+1))=kS n (l.take i)*n+v.toNat:=Rg hv;have hm:((kS n (l.take i):Nat):Int)*(n:Int)=((kS n (l.take i)*n:Nat):Int):=by rw [Int.natCast_mul]
 have hs:((kS n (l.take i)*n:Nat):Int)+v=((kS n (l.take (i+1)):Nat):Int):=by omega
 exact ⟨by rw [vB (by rw [hm];omega) (by rw [hm];omega),hm],by rw [iX (by rw [hs];omega) (by rw [hs];omega),hs]⟩
def dy:List Int->List Int->Bool
 |a :: l,b :: m=>if a=b then dy l m else decide (a<b)
 |_,_=>false
structure Rel where
 name:b8
 arity:Int
 aM:Sl (Sl Int)
structure di where
 size:Int
 aC:Sl Rel
def FF(p:Nat->Bool)(n:Nat):Bool:=(List.range n).all p
def mK(n k:Nat)(l:List (Sl Int))(i:Nat):Bool:=match l[i]? with
 |none=>true
 |some t=>decide (t.l.length=k)&&(iY n t.l&&(match i with
  |0=>true
  |j+1=>match l[j]? with
   |none=>true
   |some p=>dy p.l t.l))
def zn(n k:Nat)(l:List (Sl Int)):Bool:=FF (mK n k l) l.length
def nT(n:Nat)(r:Rel):Bool:=ey r.name&&(decide (0<=r.arity)&&(decide (r.arity<=12)&&(decide (n ^ r.arity.toNat<=4096)&&zn n r.arity.toNat r.aM.l)))
def pQ(s:di)(i:Nat):Bool:=match s.aC.l[i]? with
 |none=>true
 |some r=>nT s.size.toNat r&&!((s.aC.l.take i).any fun q=>q.name==r.name)
def cY(s:di):Bool:=decide (1<=s.size)&&(decide (s.size<=64)&&(decide (s.aC.l.length<=8)&&FF (pQ s) s.aC.l.length))
theorem JP{es:List Entry}{ck:Nat}{m:ni}(hb:h.get b=some (.map es ck))(hm:uG es m)(z:AV)(k:b8) :
  dW .string z false (.map b) (.str k) h=some ((m.find k).getD z):=by
 obtain ⟨r,hr,vE⟩:=uG.jN (k:=k) 0 hm;simp only [dW,mB,hb,q8,qZ,if_true,hr]
 cases r with
 |none=>simp at vE;simp [vE]
 |some jv=>
  obtain ⟨n,_,b,_⟩:=vE;obtain ⟨j,v⟩:=jv;simp [b]
def bv(b:Bool):AV:=.bool b
theorem Ic{i:Nat}{v:Bool}(hb:h.get b=some (.cells (d.map bv)))(hv:d[i]?=some v):ag none (.ptr b i) h=some (.bool v):=by
 rw [aj hb,vA,getElem?_map,hv];rfl
theorem D8{i:Nat}{v:Bool}(hb:h.get b=some (.cells (d.map bv)))(hi:i<d.length):bf 1 (.ptr b i) (.bool v) h=some (h.set b (.cells ((d.set i v).map bv))):=by
 rw [cK (n:=1) hb rfl rfl (by simp;omega),map_set];rfl
theorem XL(n:Nat):jj [.bool false] n=(replicate n false).map bv:=by
 induction n with
 |zero=>rfl
 |succ n ih=>rw [jj,ih];rfl
theorem Ie(hn:n<=1000000)(h:Heap):gr 1 1 [.bool false] (.int .i64 (n:Int)) (.int .i64 (n:Int)) h=some (.slice h.next 0 n 1,h.alloc (.cells ((replicate n false).map bv))):=by
 have:((n:Int))<=140737488355328:=by omega
 simp [gr,zJ,this,XL]
def kN(n:Nat):List (Sl Int)->List Bool->List Bool
 |[],d=>d
 |t :: ts,d=>kN n ts (d.set (kS n t.l) true)
theorem Gw{l:List (Sl Int)}{i:Nat}{t:Sl Int}(ht:l[i]?=some t)(d:List Bool):kN n (l.drop i) d=kN n (l.drop (i+1)) (d.set (kS n t.l) true):=by
 have h1:=(kT.1 ht).1;rw [drop_eq_getElem_cons h1];rw [ez h1] at ht;cases ht;rfl
theorem D9(n:Nat):∀ (l:List (Sl Int)) (d:List Bool),(kN n l d).length=d.length
 |[],_=>rfl
 |t :: l,d=>by rw [kN,D9 n l];simp
def bitsOf(n k:Nat)(ts:List (Sl Int)):List Bool:=kN n ts (replicate (n ^ k) false)
theorem sH(n k:Nat)(ts:List (Sl Int)):(bitsOf n k ts).length=n ^ k:=by rw [bitsOf,D9];simp
structure dB (D:b8->Option (Nat×List Bool)) (h:Heap) (B lo:Nat):Prop where
 ex:∃ es ck m,h.get B=some (.map es ck)/\uG es m/\∀ nm,m.find nm=(D nm).map fun p=>.slice p.1 0 p.2.length 1
 Df:∀ nm p,D nm=some p->lo<=p.1/\p.1<h.next/\p.1≠B/\h.get p.1=some (.cells (p.2.map bv))
 inj:∀ nm nm' p p',D nm=some p->D nm'=some p'->p.1=p'.1->nm=nm'
 lt:B<h.next
theorem dB.ext{lo:Nat}(b:dB D h B lo)(hx:bu h h'):dB D h' B lo:=by
 obtain ⟨es,ck,m,h1,h2,h3⟩:=b.ex;refine ⟨⟨es,ck,m,by rw [hx.get _ b.lt];exact h1,h2,h3⟩,fun nm p hp=>?_,b.inj,Nat.lt_of_lt_of_le b.lt hx.next⟩;obtain ⟨q1,q2,q3,q4⟩:=b.Df nm p hp;exact ⟨q1,Nat.lt_of_lt_of_le q2 hx.next,q3,by rw [hx.get _ q2];exact q4⟩
def bZ(r:Rel):b8×Int×List (List Int):=(r.name,r.arity,r.aM.l.map Sl.l)
abbrev L7:=b8×Int×List (List Int)
def UQ(n:Nat)(ds:List L7)(nm:b8)(r:Nat):Prop:=∃ d ∈ ds,d.1=nm/\∃ u ∈ d.2.2,kS n u=r
def mS(d:L7):b8×Int:=(d.1,d.2.1)
def kz(D:b8->Option (Nat×List Bool))(nm:b8)(b:Nat)(d:List Bool):b8->Option (Nat×List Bool):=fun j=>if j=nm then some (b,d) else D j
theorem dB.set{D:b8->Option (Nat×List Bool)}{h:Heap}{B lo:Nat}(H:dB D h B lo){nm:b8}{p:Nat×List Bool}(hp:D nm=some p){d:List Bool}(hd:d.length=p.2.length):dB (kz D nm p.1 d) (h.set p.1 (.cells (d.map bv))) B lo:=by
 obtain ⟨es,ck,m,h1,h2,h3⟩:=H.ex;obtain ⟨k1,k2,k3,k4⟩:=H.Df nm p hp;refine ⟨⟨es,ck,m,by rw [Heap.aP,if_neg (Ne.symm k3)];exact h1,h2,fun j=>?_⟩,fun j q hq=>?_,fun j j' q q' hq nW XM=>?_,by rw [Heap.bp];exact H.lt⟩
 ·rw [h3];unfold kz;by_cases e:j=nm
  ·subst e;rw [if_pos rfl,hp,map_some,map_some,hd]
  ·rw [if_neg e]
 ·unfold kz at hq;by_cases e:j=nm
  ·rw [if_pos e] at hq;cases hq;exact ⟨k1,by rw [Heap.bp];exact k2,k3,by rw [Heap.aP,if_pos rfl]⟩
  ·rw [if_neg e] at hq;obtain ⟨q1,q2,q3,q4⟩:=H.Df j q hq;exact ⟨q1,by rw [Heap.bp];exact q2,q3,by rw [Heap.aP,if_neg (fun e'=>e (H.inj j nm q p hq hp e'))];exact q4⟩
 ·unfold kz at hq nW;by_cases e:j=nm
  ·by_cases e':j'=nm
   ·rw [e,e']
   ·rw [if_pos e] at hq;rw [if_neg e'] at nW;cases hq;exact absurd (H.inj nm j' p q' hp nW XM).symm e'
  ·by_cases e':j'=nm
   ·rw [if_neg e] at hq;rw [if_pos e'] at nW;cases nW;exact absurd (H.inj j nm q p hq hp XM) e
   ·rw [if_neg e] at hq;rw [if_neg e'] at nW;exact H.inj j j' q q' hq nW XM
theorem L8{R:AV}(hS:h.get S=some (.cells [.int .i64 (n:Int),R]))(h1:1<=n){x:Sl Int}(hx:x.l.length<=12)(hc:n ^ x.l.length<=4096)(hb:iY n x.l=true)
  (hK:K (.ret (.int .i64 ((kS n x.l:Nat):Int))) h=true):Sem TP 101 [.ptr S 0,ak encI 1 x] h K:=by
 have hbig:x.l.length<=cE:=by unfold cE;omega
 refine F.nI ?_;rw [F.nX];simp only [aR,reduceAdd,reduceEqDiff,reduceIte];refine aD 0 x.l.length (zero_le _) (fun i e h'=>h'=h/\e 0 = .ptr S 0/\e 5 = .int .i64 ((kS n (x.l.take i):Nat):Int)/\e 8=ak encI 1 x/\e 9 = .int .i64 (x.l.length:Int)/\e 10 = .int .i64 (i:Int)) ⟨rfl,rfl,rfl,rfl,rfl,rfl⟩ ?_ ?_
 ·rintro i e h' _ hi ⟨rfl,e0,e5,e8,e9,jm⟩ K' hn gi hr hp;have hv:x.l[i]?=some x.l[i]:=ez hi;rw [F.dw.aT];simp only [e0,e5,e8,e9,jm,aR,reduceAdd,reduceEqDiff,reduceIte,cp,aj hS,aZ hi,aV x hi,iB hv,(zm hb h1 hc hv).1,(zm hb h1 hc hv).2,aI hi hbig];exact hn _ _ ⟨rfl,e0,rfl,e8,e9,rfl⟩
 ·rintro e h' ⟨rfl,e0,e5,e8,e9,jm⟩ K' gi;rw [F.dw.aT];simp only [e9,jm,aR,reduceAdd,reduceEqDiff,reduceIte,aS];rw [gi,F.dw.aF];simp only [e5,bL,reduceEqDiff,reduceIte];rw [jD (dK _)];exact hK
def de(vs:List Int)(ps:List Nat):List Int:=ps.map fun p=>vs.getD p 0
theorem Ig(hV:h.get V=some (.cells (vs.map iv)))(UR:V<h.next)(hn:n=vs.length){ps:List Nat}{x:Sl Int}(hxp:x.l=ps.map fun (p:Nat)=>(p:Int))(tu:∀ p ∈ ps,p<vs.length)(qJ:ps.length<=1000000)
  (hK:∀ h',h'.get h.next=some (.cells ((de vs ps).map iv))->bu h h'->h.next<h'.next->K (.ret (.slice h.next 0 ps.length 1)) h'=true):Sem TP 121 [.slice V 0 n 1,ak encI 1 x] h K:=by
 subst hn;have YU:ps.length<=cE:=by unfold cE;omega
 have hl:x.l.length=ps.length:=by rw [hxp];simp
 refine F.Dy ?_;rw [F.Fm];simp only [aR,reduceAdd,reduceEqDiff,reduceIte,hl,Cr qJ];have g0:=aA h (.cells ((replicate ps.length (0:Int)).map iv));have x0:=bu.alloc h (.cells ((replicate ps.length (0:Int)).map iv));have n0:(h.alloc (.cells ((replicate ps.length (0:Int)).map iv))).next=h.next+1:=Heap.aJ _ _
 generalize h.alloc (.cells ((replicate ps.length (0:Int)).map iv))=H at g0 x0 n0 ⊢
 refine aD 0 ps.length (zero_le _) (fun i e h'=>∃ d:List Int,d.length=ps.length/\d.take i=(de vs ps).take i/\h'.get h.next=some (.cells (d.map iv))/\bu h h'/\h.next<h'.next /\
  e 0 = .slice V 0 vs.length 1/\e 5 = .slice h.next 0 ps.length 1/\e 11=ak encI 1 x/\e 12 = .int .i64 (ps.length:Int)/\e 13 = .int .i64 (i:Int)) ⟨replicate ps.length 0,by simp,rfl,g0,x0,by omega,rfl,rfl,rfl,rfl,rfl⟩ ?_ ?_
 ·rintro i e h' _ hi ⟨d,dl,dt,q0,qx,qn,e0,e5,nU,tO,oQ⟩ K' hn hx hr hp;have hv:ps[i]?=some ps[i]:=ez hi;generalize ps[i]=p at hv;have FZ:x.l[i]?=some (p:Int):=by rw [hxp,getElem?_map,hv];rfl
  have YP:=tu p (iz hv);have hw:vs[p]?=some (vs.getD p 0):=by rw [getD_eq_getElem?_getD,ez YP];rfl
  have qV:h'.get V=some (.cells (vs.map iv)):=by rw [qx.get V UR];exact hV
  have i1:=aV (enc:=encI) (sz:=1) (k:=.i64) x (i:=i) (by rw [hl];exact hi);have l1:=fun h=>iB (x:=x) FZ (h:=h);rw [F.iS.aT];simp only [e0,e5,nU,tO,oQ,aR,reduceAdd,reduceEqDiff,reduceIte,aZ hi,i1,l1,nK YP,oA qV hw,nK hi,zk q0 (show i<d.length by omega),aI hi YU];refine hn _ _ ⟨d.set i (vs.getD p 0),by simp [dl],?_,by rw [Heap.aP,if_pos rfl],qx.set (dK _) _,by rw [Heap.bp];exact qn,e0,e5,nU,tO,rfl⟩;have hpk:(de vs ps)[i]?=some (vs.getD p 0):=by unfold de;rw [getElem?_map,hv];rfl
  rw [take_add_one,take_add_one,hpk,take_set_of_le (dK _),dt,getElem?_set,if_pos rfl,if_pos (by omega)]
 ·rintro e h' ⟨d,dl,dt,q0,qx,qn,e0,e5,nU,tO,oQ⟩ K' hx;rw [F.iS.aT];simp only [tO,oQ,aR,reduceAdd,reduceEqDiff,reduceIte,aS];rw [hx,F.iS.aF];simp only [e5,bL,reduceEqDiff,reduceIte]
  have:d=de vs ps:=by
   have h1:d.take ps.length=d:=jD (by omega);have h2:(de vs ps).take ps.length=de vs ps:=jD (by simp [de]);rw [<- h1,dt,h2]
  rw [this] at q0;exact hK h' q0 qx qn
theorem Bi{T:Nat}{R:AV}(hS:h.get S=some (.cells [.int .i64 (n:Int),R]))(h1:1<=n){t:List Int}(hT:h.get T=some (.cells (t.map iv)))(hx:t.length<=12)(hc:n ^ t.length<=4096)(hb:iY n t=true)
  (hK:K (.ret (.int .i64 ((kS n t:Nat):Int))) h=true):Sem TP 101 [.ptr S 0,.slice T 0 t.length 1] h K:=by
 have hbig:t.length<=cE:=by unfold cE;omega
 have hl:∀ h,bX .slice (.slice T 0 t.length 1) h=some (.int .i64 (t.length:Int)):=fun _=>rfl;refine F.nI ?_;rw [F.nX];simp only [aR,reduceAdd,reduceEqDiff,reduceIte,hl];refine aD 0 t.length (zero_le _) (fun i e h'=>h'=h/\e 0 = .ptr S 0/\e 5 = .int .i64 ((kS n (t.take i):Nat):Int)/\e 8 = .slice T 0 t.length 1/\e 9 = .int .i64 (t.length:Int)/\e 10 = .int .i64 (i:Int)) ⟨rfl,rfl,rfl,rfl,rfl,rfl⟩ ?_ ?_
 ·rintro i e h' _ hi ⟨rfl,e0,e5,e8,e9,jm⟩ K' hn gi hr hp;have hv:t[i]?=some t[i]:=ez hi;rw [F.dw.aT];simp only [e0,e5,e8,e9,jm,aR,reduceAdd,reduceEqDiff,reduceIte,cp,aj hS,aZ hi,nK hi,oA hT hv,(zm hb h1 hc hv).1,(zm hb h1 hc hv).2,aI hi hbig];exact hn _ _ ⟨rfl,e0,rfl,e8,e9,rfl⟩
 ·rintro e h' ⟨rfl,e0,e5,e8,e9,jm⟩ K' gi;rw [F.dw.aT];simp only [e9,jm,aR,reduceAdd,reduceEqDiff,reduceIte,aS];rw [gi,F.dw.aF];simp only [e5,bL,reduceEqDiff,reduceIte];rw [jD (dK _)];exact hK
def dz(D:b8->Option (Nat×List Bool))(nm:b8)(r:Nat):Bool:=match D nm with|some p=>p.2.getD r false|none=>false
theorem dB.look{lo:Nat}(b:dB D h B lo)(hp:D nm=some p):dW .string .ax false (.map B) (.str nm) h=some (.slice p.1 0 p.2.length 1):=by
 obtain ⟨es,ck,m,h1,h2,h3⟩:=b.ex;rw [JP h1 h2,h3,hp];rfl
def eE(n:Nat)(look:b8->Nat->Bool)(c:eV)(t:List Int):Bool:=
 (if c.kind=0 then look c.name (kS n t) else if c.kind=1 then decide (t.getD 0 0=t.getD 1 0) else decide (t.getD 0 0<t.getD 1 0)) != c.neg
theorem JQ{lo T:Nat}(hS:h.get S=some (.cells [.int .i64 (n:Int),.map B]))(hD:dB D h B lo)(n1:1<=n){c:eV}{t:List Int}(hT:h.get T=some (.cells (t.map iv)))(hTn:T<h.next)(Ri:S<h.next)
  (ht:t.length<=12) (hb:iY n t=true) (hc:c.kind=0->n ^ t.length<=4096/\∃ p,D c.name=some p/\p.2.length=n ^ t.length) (hk:c.kind=1\/c.kind=2->t.length=2) (hkk:c.kind=0\/c.kind=1\/c.kind=2)
  (hK:∀ h',bu h h'->K (.ret (.bool (eE n (dz D) c t))) h'=true):Sem TP 158 [.ptr S 0,.agg [.int .i64 c.kind,.bool c.neg,.str c.name,ak encS 1 c.args],.slice T 0 t.length 1] h K:=by
 refine F.tE ?_;rw [F.uv];have hbx:eW (.agg [.int .i64 c.kind,.bool c.neg,.str c.name,ak encS 1 c.args])=some (bP c):=dg (iI c);have g0:(Heap.alloc h (.cells (bP c))).get h.next=some (.cells (bP c)):=aA _ _
 have gx:bu h (Heap.alloc h (.cells (bP c))):=bu.alloc _ _;simp only [hbx,an];generalize (Heap.alloc h (.cells (bP c)))=H at g0 gx ⊢;have gS:H.get S=some (.cells [.int .i64 (n:Int),.map B]):=by rw [gx.get S Ri];exact hS
 have gT:H.get T=some (.cells (t.map iv)):=by rw [gx.get T hTn];exact hT
 have gD:=hD.ext gx;simp only [aR,reduceAdd,reduceEqDiff,reduceIte,aj g0,bP,cI];by_cases k0:c.kind=0
 ·obtain ⟨FG,p,hp,qJ⟩:=hc k0;have Ct:kS n t<p.2.length:=by rw [qJ];exact qO hb
  have pR:p.2[kS n t]?=some (p.2.getD (kS n t) false):=by rw [getD_eq_getElem?_getD,ez Ct];rfl
  obtain ⟨_,_,_,gp⟩:=gD.Df c.name p hp;simp only [fh k0,aL,aR,reduceAdd,reduceEqDiff,reduceIte,cp,aj gS,aj g0,bP,gD.look hp];refine ai (Bi gS n1 gT ht FG hb ?_);simp only [aR,reduceAdd,reduceEqDiff,reduceIte,aj gS,aj g0,bP,gD.look hp,AV.beq_refl,Bool.and_self,Bool.and_true,if_true,nK Ct,Ic gp pR,Cp];have hv:eE n (dz D) c t = !(p.2.getD (kS n t) false==c.neg):=by unfold eE dz;rw [if_pos k0,hp];rfl
  rw [<- hv];exact hK H gx
 ·have h2:t.length=2:=hk (hkk.resolve_left k0);have v0:t[0]?=some (t.getD 0 0):=by rw [getD_eq_getElem?_getD,ez (by omega:0<t.length)];rfl
  have v1:t[1]?=some (t.getD 1 0):=by rw [getD_eq_getElem?_getD,ez (by omega:1<t.length)];rfl
  have i0:dN 1 (.slice T 0 t.length 1) (.int .i64 0)=some (.ptr T 0):=nK (i:=0) (by omega);have i1:dN 1 (.slice T 0 t.length 1) (.int .i64 1)=some (.ptr T 1):=nK (i:=1) (by omega);simp only [eT k0,aK];by_cases k1:c.kind=1
  ·simp only [fh k1,aL,i0,i1,oA gT v0,oA gT v1,aR,reduceAdd,reduceEqDiff,reduceIte,aj g0,bP,cI,Cp];have hv:eE n (dz D) c t = !(decide (t.getD 0 0=t.getD 1 0)==c.neg):=by unfold eE;rw [if_neg k0,if_pos k1];rfl
   rw [<- hv];exact hK H gx
  ·have k2:c.kind=2:=(hkk.resolve_left k0).resolve_left k1;simp only [eT k1,aK,fh k2,aL,i0,i1,oA gT v0,oA gT v1,aR,reduceAdd,reduceEqDiff,reduceIte,aj g0,bP,Cp];have hv:eE n (dz D) c t = !(decide (t.getD 0 0<t.getD 1 0)==c.neg):=by unfold eE;rw [if_neg k0,if_neg k1];rfl
   rw [<- hv];exact hK H gx
theorem OR(hx:x.l.length<=cE)(hs:s ∈ x.l)(hK:K (.ret (.int .i64 (x.l.idxOf s:Int))) h=true):Sem TP 145 [ak encS 1 x,.str s] h K:=by
 refine F.iN ?_;rw [F.iT];simp only [aR,reduceAdd,reduceEqDiff,reduceIte];refine aD 0 x.l.length (zero_le _) (fun i e h'=>h'=h/\e 0=ak encS 1 x/\e 1 = .str s/\e 7 = .int .i64 (x.l.length:Int)/\e 8 = .int .i64 (i:Int)/\i<=x.l.idxOf s) ⟨rfl,rfl,rfl,rfl,rfl,zero_le _⟩ ?_ ?_
 ·rintro i e h' _ hi ⟨rfl,e0,e1,e7,e8,ht⟩ K' hn gi hr zP;have hv:x.l[i]?=some x.l[i]:=ez hi;have hlt:x.l.idxOf s<x.l.length:=idxOf_lt_length_of_mem hs;rw [F.bC.aT];simp only [e0,e1,e7,e8,aR,reduceAdd,reduceEqDiff,reduceIte,aZ hi,aV x hi,jC hv,sE];by_cases hq:s=x.l[i]
  ·simp only [fh hq,aL];rw [hr,F.bC.bz]
   have:x.l.idxOf s=i:=by
    refine Nat.le_antisymm ?_ ht;refine Nat.le_of_not_lt fun h=>?_;have h2:=not_of_lt_findIdx (p:=fun a=>a==s) (xs:=x.l) (i:=i) h;simp [<- hq] at h2
   rw [this] at hK;exact hK
  ·simp only [eT hq,aK,aI hi hx,an];refine hn _ _ ⟨rfl,e0,e1,e7,rfl,?_⟩;refine Nat.lt_of_le_of_ne ht fun h=>?_;have h3:x.l[x.l.idxOf s]=s:=getElem_idxOf hlt;exact hq (by rw [<- h3];congr 1;exact h.symm)
 ·rintro e h' ⟨rfl,e0,e1,e7,e8,ht⟩ K' gi;have hlt:x.l.idxOf s<x.l.length:=idxOf_lt_length_of_mem hs;omega
def placesOf(vars xs:List b8):List Nat:=xs.map fun s=>vars.idxOf s
theorem JR{vars:Sl b8}(hV:h.get V=some (.cells [ak encS 1 vars]))(UR:V<h.next)(mA:∀ s ∈ xs.l,s ∈ vars.l)(hx:xs.l.length<=1000000)(hv:vars.l.length<=cE)
  (hK:∀ a h',Own encI 1 h.next h' a ((placesOf vars.l xs.l).map fun (p:Nat)=>(p:Int))->bu h h'->K (.ret a) h'=true):Sem TP 144 [ak encS 1 xs,.ptr V 0] h K:=by
 have Nz:xs.l.length<=cE:=by unfold cE;omega
 refine F.xU ?_;rw [F.y9];simp only [aR,reduceAdd,reduceEqDiff,reduceIte];refine aD 0 xs.l.length (zero_le _) (fun i e h'=>∃ a,Own encI 1 h.next h' a ((placesOf vars.l (xs.l.take i)).map fun (p:Nat)=>(p:Int))/\bu h h'/\e 1 = .ptr V 0/\e 4=a/\e 7=ak encS 1 xs/\e 8 = .int .i64 (xs.l.length:Int)/\e 9 = .int .i64 (i:Int)) ⟨.ax,.nil,bu.refl _,rfl,rfl,rfl,rfl,rfl⟩ ?_ ?_
 ·rintro i e h' _ hi ⟨a,o,qx,e1,e4,e7,e8,e9⟩ K' hn gi hr hp;have hs:xs.l[i]?=some xs.l[i]:=ez hi;generalize xs.l[i]=s at hs;have qV:h'.get V=some (.cells [ak encS 1 vars]):=by rw [qx.get V UR];exact hV
  rw [F.fF.aT];simp only [e1,e4,e7,e8,e9,aR,reduceAdd,reduceEqDiff,reduceIte,aZ hi,aV xs hi,jC hs,aj qV];refine ai (OR hv (mA s (iz hs)) ?_);obtain ⟨a2,h2,p1,p2,p3,p4,p5,p6⟩:=o.push nH JN qx.next (bytes:=8) (by have:=length_take_le i xs.l;simp only [placesOf,length_map];unfold cG;omega) (vars.l.idxOf s:Int)
  simp only [aR,reduceAdd,reduceEqDiff,reduceIte,e4,Rc,p1,e9,aI hi Nz];refine hn _ _ ⟨a2,?_,p5 h qx (dK _),e1,rfl,e7,e8,rfl⟩;have:placesOf vars.l (xs.l.take (i+1))=placesOf vars.l (xs.l.take i)++[vars.l.idxOf s]:=by unfold placesOf;rw [take_add_one,hs];simp
  rw [this];simpa using p2
 ·rintro e h' ⟨a,o,qx,e1,e4,e7,e8,e9⟩ K' gi;rw [F.fF.aT];simp only [e8,e9,aR,reduceAdd,reduceEqDiff,reduceIte,aS];rw [gi,F.fF.aF];rw [jD (dK _)] at o;simp only [e4,bL,reduceEqDiff,reduceIte];exact hK a h' o qx
abbrev RW:=Option (Nat×List Int)
def RW.av:RW->AV
 |none=>.ax
 |some p=>.slice p.1 0 p.2.length 1
def RW.l:RW->List Int
 |none=>[]
 |some p=>p.2
def zo(w:RW):List AV:=[w.av]
theorem JS(w:RW):(zo w).length=1:=rfl
theorem Rj(w:RW):bx (zo w)=true:=by cases w<;>rfl
theorem ab8(w:RW):fB [.ax] [(0,1)] [w.av]=some (zo w):=by cases w<;>rfl
theorem Rk{l:List Int}(o:Own encI 1 k h a l):∃ w:RW,a=w.av/\w.l=l/\∀ p,w=some p->k<=p.1/\p.1<h.next/\h.get p.1=some (.cells (p.2.map iv)):=by
 cases o with
 |nil=>exact ⟨none,rfl,rfl,fun p hp=>by cases hp⟩
 |row b l h1 h2 h3=>exact ⟨some (b,l),rfl,rfl,fun p hp=>by cases hp;exact ⟨h1,h2,by rw [sC];exact h3⟩⟩
theorem row_one{enc:α->List AV}(he:∀ x,(enc x).length=sz){v:α}(hb:h.get b=some (.cells (enc v))):Row enc sz h (.slice b 0 1 sz) [v]:=by
 refine ⟨rfl,?_⟩;have hl:(enc v).length=sz:=he v;simp only [gQ,hb,if_true,length_singleton,Nat.one_mul,Nat.zero_add,hl,dK,drop_zero];rw [<- hl,take_length];simp
structure IF (k:Nat) (h:Heap) (cW lW:AV) (ws:List RW) (ls:List Int) (held:List RW):Prop where
 oc:Own zo 1 k h cW ws
 ol:Own encI 1 k h lW ls
 ok:∀ w ∈ held,∀ p,w=some p->k<=p.1/\p.1<h.next/\h.get p.1=some (.cells (p.2.map iv))/\cL cW≠some p.1/\cL lW≠some p.1
 sep:∀ b,cL cW=some b->cL lW≠some b
theorem IF.ext{k:Nat}{h h':Heap}{cW lW:AV}{ws:List RW}{ls:List Int}{held:List RW}(t:IF k h cW lW ws ls held)(hx:bu h h'):IF k h' cW lW ws ls held:=
 ⟨t.oc.ext hx,t.ol.ext hx,fun w hw p hp=>by
  obtain ⟨q1,q2,q3,q4⟩:=t.ok w hw p hp
  exact ⟨q1,Nat.lt_of_lt_of_le q2 hx.next,by rw [hx.get _ q2];exact q3,q4⟩,t.sep⟩
theorem IF.hold{ws:List RW}{ls:List Int}{held:List RW}(t:IF k h cW lW ws ls held){w:RW}(hj:∀ p,w=some p->j<=p.1/\k<=p.1/\p.1<h.next/\h.get p.1=some (.cells (p.2.map iv)))
  (hc:∀ b,cL cW=some b->b<j) (hl:∀ b,cL lW=some b->b<j):IF k h cW lW ws ls (held++[w]):=
 ⟨t.oc,t.ol,fun v hv p hp=>by
  rcases mem_append.1 hv with hv|hv
  ·exact t.ok v hv p hp
  ·rw [mem_singleton] at hv;subst hv;obtain ⟨q1,q2,q3,q4⟩:=hj p hp
   exact ⟨q2,q3,q4,fun h=>by have:=hc _ h;omega,fun h=>by have:=hl _ h;omega⟩,t.sep⟩
theorem IF.low{ws:List RW}{ls:List Int}{held:List RW}(t:IF k h cW lW ws ls held){d:Nat}(hd:d<k)(x:j9):IF k (h.set d x) cW lW ws ls held:=
 ⟨t.oc.kM hd x,t.ol.kM hd x,fun w hw p hp=>by
  obtain ⟨q1,q2,q3,q4⟩:=t.ok w hw p hp
  exact ⟨q1,by rw [Heap.bp];exact q2,by rw [Heap.aP,if_neg (by omega)];exact q3,q4⟩,t.sep⟩
theorem IF.push{ws:List RW}{ls:List Int}{held:List RW}(t:IF k h cW lW ws ls held)(hk:k<=h.next)(hw:ws.length<=1000000)(hl:ls.length<=1000000)(w:RW)(x:Int) :
  ∃ c' l' h2 h3,bY 1 24 cW (.slice h.next 0 1 1) ((h.alloc (.cells (zo w))).alloc (.cells (encI x)))=some (c',h2)/\bY 1 8 lW (.slice (h.next+1) 0 1 1) h2=some (l',h3) /\
   IF k h3 c' l' (ws++[w]) (ls++[x]) held/\(∀ c,c<k->h2.get c=h.get c/\h3.get c=h.get c)/\h.next<=h3.next:=by
 have g0:((h.alloc (.cells (zo w))).alloc (.cells (encI x))).get h.next=some (.cells (zo w)):=by
  rw [Heap.aQ,Heap.aJ,if_neg (by omega)];exact aA _ _
 have g1:((h.alloc (.cells (zo w))).alloc (.cells (encI x))).get (h.next+1)=some (.cells (encI x)):=aA _ _;have gx:bu h ((h.alloc (.cells (zo w))).alloc (.cells (encI x))):=(bu.alloc _ _).trans (bu.alloc _ _);have gn:((h.alloc (.cells (zo w))).alloc (.cells (encI x))).next=h.next+2:=rfl
 generalize ((h.alloc (.cells (zo w))).alloc (.cells (encI x)))=H at g0 g1 gx gn ⊢;have tH:=t.ext gx;have cge:∀ b,cL cW=some b->k<=b/\b<h.next:=fun b hb=>⟨t.oc.ge hb,t.oc.lt hb⟩
 have lge:∀ b,cL lW=some b->k<=b/\b<h.next:=fun b hb=>⟨t.ol.ge hb,t.ol.lt hb⟩
 obtain ⟨c',h2,p1,p2,p3,p4,p5⟩:=tH.oc.append JS Rj (row_one JS g0) (by omega) (bytes:=24) (by simp only [length_singleton];unfold cG;omega);have ab9:=p5 (by simp);have e1:h2.get (h.next+1)=some (.cells (encI x)):=by rw [p3 _ (by omega) (fun hb=>by have:=(cge _ hb).2;omega)];exact g1
 have ol2:Own encI 1 k h2 lW ls:=by
  have o:=tH.ol
  cases o with
  |nil=>exact .nil
  |row b l q1 q2 q3=>exact .row b _ q1 (by omega) (by rw [p3 b q2 (fun hb=>t.sep b hb rfl)];exact q3)
 obtain ⟨l',h3,r1,r2,r3,r4,r5⟩:=ol2.append nH JN (row_one nH e1) (by omega) (bytes:=8) (by simp only [length_singleton];unfold cG;omega);have acd:=r5 (by simp)
 have oc3:Own zo 1 k h3 c' (ws++[w]):=by
  generalize hL:ws++[w]=L at p2
  cases p2 with
  |nil=>exact .nil
  |row b l q1 q2 q3=>exact .row b _ q1 (by omega) (by rw [r3 b q2 (fun hb=>by have:=(lge _ hb).2;have:=ab9 b rfl;omega)];exact q3)
 refine ⟨c',l',h2,h3,p1,r1,⟨oc3,r2,fun v hv p hp=>?_,fun b hb fq=>?_⟩,fun c hc=>?_,by omega⟩
 ·obtain ⟨q1,q2,q3,q4,q5⟩:=t.ok v hv p hp;have a1:h2.get p.1=some (.cells (p.2.map iv)):=by rw [p3 _ (by omega) q4,gx.get _ q2];exact q3
  refine ⟨q1,by omega,by rw [r3 _ (by omega) q5];exact a1,fun h=>by have:=ab9 _ h;omega,fun h=>by have:=acd _ h;omega⟩
 ·have:=p2.lt hb;have:=acd b fq;omega
 ·have a1:h2.get c=h.get c:=by rw [p3 c (by omega) (fun hb=>by have:=(cge _ hb).1;omega),gx.get c (by omega)]
  exact ⟨a1,by rw [r3 c (by omega) (fun hb=>by have:=(lge _ hb).1;omega)];exact a1⟩
theorem Rl:∀ ws:List RW,ws.flatMap zo=ws.map RW.av
 |[]=>rfl
 |w :: ws=>by rw [flatMap_cons,map_cons,Rl ws];rfl
theorem Rm:∀ ws:List RW,(ws.map fun w=>(w.map (·.2):Sl Int)).flatMap cU=ws.map fun w=>ak encI 1 (w.map (·.2))
 |[]=>rfl
 |w :: ws=>by rw [map_cons,flatMap_cons,map_cons,Rm ws];rfl
theorem IF.yB{ws:List RW}{ls:List Int}{held:List RW}(t:IF k h cW lW ws ls held)(hs:∀ w ∈ ws,w ∈ held):∃ x:Sl (Sl Int),x.l.map Sl.l=ws.map RW.l/\Fz true h cW (ak cU 1 x):=by
 have kX:∀ w ∈ held,Fz true h w.av (ak encI 1 (w.map (·.2))):=fun w hw=>by
  cases w with
  |none=>exact .dX rfl
  |some p=>exact vN (t.ok _ hw p rfl).2.2.1
 obtain ⟨o,_,_,_⟩:=t
 cases o with
 |nil=>exact ⟨none,rfl,.dX rfl⟩
 |row b ws h1 h2 h3=>
  refine ⟨some (ws.map fun w=>(w.map (·.2):Sl Int)),?_,?_⟩
  ·simp only [Sl.HE,List.map_map];refine map_congr_left fun w _=>?_;cases w<;>rfl
  ·have e1:=Rl ws;have e2:=Rm ws;rw [e1] at h3
   have hf:Fz true h (.slice b 0 ws.length 1) (.au (ws.map fun w=>ak encI 1 (w.map (·.2))) 0 ws.length 1):=by
    refine .slice b 0 ws.length 1 _ _ h3 (by simp) fun i x y hx hy=>?_;rw [getElem?_map] at hx hy;obtain ⟨w,hw,rfl⟩:=map_eq_some_iff.1 hx;rw [hw] at hy;cases hy;exact kX w (hs w (iz hw))
   have:ak cU 1 (some (ws.map fun w=>(w.map (·.2):Sl Int))) = .au (ws.map fun w=>ak encI 1 (w.map (·.2))) 0 ws.length 1:=by
    simp only [ak,e2,length_map]
   rw [this];exact hf
def mM(xs:List b8):Bool:=xs.all ey&&decide (xs.length<=12)
theorem ee{x:Sl b8}(hx:x.l.length<=cE){h:Heap}{K:Out->Heap->Bool}(hK:K (.ret (.bool (mM x.l))) h=true):Sem TP 154 [ak encS 1 x] h K:=by
 refine F.BG ?_;rw [F.Dr];refine aD 0 x.l.length (zero_le _) (fun i e h'=>h'=h/\e 0=ak encS 1 x/\e 3 = .int .i64 (i:Int)/\(x.l.take i).all ey=true) ⟨rfl,rfl,rfl,rfl⟩ ?_ ?_
 ·rintro i e h' _ hi ⟨rfl,e0,e3,ht⟩ K' hn gi hr zP;have hv:x.l[i]?=some x.l[i]:=ez hi;generalize x.l[i]=s at hv;rw [F.ee.aT];simp only [e0,e3,aR,reduceAdd,reduceEqDiff,reduceIte,aZ hi,aV x hi,jC hv];refine ai (eB ?_);simp only [aR,reduceAdd,reduceEqDiff,reduceIte]
  cases hq:ey s with
  |false=>
   simp only [Bool.not_false,aL];rw [hr,F.ee.bz];have:mM x.l=false:=by unfold mM;rw [all_false hv hq,Bool.false_and]
   rw [this] at hK;exact hK
  |true=>
   simp only [Bool.not_true,aK,aI hi hx,an];exact hn _ _ ⟨rfl,e0,rfl,jB hv ht hq⟩
 ·rintro e h' ⟨rfl,e0,e3,ht⟩ K' gi;rw [F.ee.aT];simp only [e0,e3,aR,reduceAdd,reduceEqDiff,reduceIte,aS];rw [gi,F.ee.aF];simp only [e0,aR,reduceAdd,reduceEqDiff,reduceIte];rw [jD (dK _)] at ht;have:mM x.l=decide ((x.l.length:Int)<=12):=by unfold mM;rw [ht,Bool.true_and];by_cases h:x.l.length<=12<;>simp<;>omega
  rw [this] at hK;exact hK
def uR(r:aN):List b8:=r.args.l++r.body.l.flatMap fun c=>c.args.l
theorem xo(o a b:List b8):eZ o (a++b)=eZ (eZ o a) b:=by unfold eZ;rw [foldl_append]
theorem xp:∀ (cs:List eV) (o:List b8),j5 o cs=eZ o (cs.flatMap fun c=>c.args.l)
 |[],o=>rfl
 |c :: cs,o=>by
  rw [flatMap_cons,xo];exact xp cs (eZ o c.args.l)
theorem Ea(r:aN):varsOf r=eZ [] (uR r):=by
 unfold varsOf uR;rw [xo,xp]
theorem JT{r:aN}(hf:r.lJ)(i:Nat):(r.args.l++(r.body.l.take i).flatMap fun c=>c.args.l).length<=3000000:=by
 have:∀ (cs:List eV),(∀ c ∈ cs,c.args.l.length<=1500)->(cs.flatMap fun c=>c.args.l).length<=cs.length*1500:=by
  intro cs
  induction cs with
  |nil=>intro _;simp
  |cons c cs ih=>
   intro h;have h1:=ih fun d hd=>h d (mem_cons_of_mem _ hd);have h2:=h c mem_cons_self;rw [flatMap_cons,length_append,length_cons];omega
 have h1:=this (r.body.l.take i) fun c hc=>hf.2.2 c (mem_of_mem_take hc);have h2:=length_take_le i r.body.l;have h4:=length_take_le' i r.body.l;have:=hf.1;have:=hf.2.1;rw [length_append];omega
theorem bQ{r:aN}(hf:r.lJ){h:Heap}{K:Out->Heap->Bool}(hK:∀ x:Sl b8,x.l=varsOf r->K (.ret (ak encS 1 x)) h=true) :
  Sem TP 43 [.agg [.str r.name,ak encS 1 r.args,ak bP 4 r.body]] h K:=by
 have Bj:r.body.l.length<=cE:=by have:=hf.2.1;unfold cE;omega
 have main:Sem TP 43 [.agg [.str r.name,ak encS 1 r.args,ak bP 4 r.body]] Heap.empty (fun o h'=>yes (∃ v,∃ x:Sl b8,o = .ret v/\x.l=varsOf r/\Fz true h' v (ak encS 1 x))):=by
  refine F.wD ?_;rw [F.xT];have hb:eW (.agg [.str r.name,ak encS 1 r.args,ak bP 4 r.body])=some (aO r):=dg (jG r);have kX:fB [] [] []=some []:=rfl;simp only [hb,kX,an,bJ,Heap.aJ];have g0:(Heap.alloc (Heap.alloc Heap.empty (.cells (aO r))) (.cells [])).get 0=some (.cells (aO r)):=by simp [Heap.aQ,bJ]
  have g1:(Heap.alloc (Heap.alloc Heap.empty (.cells (aO r))) (.cells [])).get 1=some (.cells (([]:List b8).flatMap encS)):=by simp [Heap.aQ,bJ]
  have gn:(Heap.alloc (Heap.alloc Heap.empty (.cells (aO r))) (.cells [])).next=2:=rfl
  generalize (Heap.alloc (Heap.alloc Heap.empty (.cells (aO r))) (.cells []))=H at g0 g1 gn ⊢;have o0:Own encS 1 1 H (.slice (0+1) 0 0 1) []:=.row 1 [] (dK _) (by omega) g1;obtain ⟨a1,h1,p1,p2,p3,p4,p5⟩:=o0.append iL pL (vO iL r.args H) (by omega) (bytes:=16) (by have:=hf.1;unfold cG;simp only [length_nil];omega);have UO:h1.get 0=some (.cells (aO r)):=by rw [p3 0 (by omega) (fun hb=>by simp [cL] at hb)];exact g0
  simp only [aR,reduceAdd,reduceEqDiff,reduceIte,aj g0,aO];simp only [p1,aR,reduceAdd,reduceEqDiff,reduceIte]
  refine aD 0 r.body.l.length (zero_le _) (fun i e h'=>∃ a,h'.get 0=some (.cells (aO r))/\2<=h'.next/\Own encS 1 1 h' a (r.args.l++(r.body.l.take i).flatMap fun c=>c.args.l)/\e 1 = .ptr 0 0/\e 3=a/\e 4 = .int .i64 (i:Int))
   ⟨a1,UO,by omega,by simpa using p2,rfl,rfl,rfl⟩ ?_ ?_
  ·rintro i e h' _ hi ⟨a,q0,qn,o,e1,e3,e4⟩ K' hn hx hr hp;have hv:r.body.l[i]?=some r.body.l[i]:=ez hi;generalize r.body.l[i]=c at hv;have hc:=hf.2.2 c (iz hv);obtain ⟨a2,h2,s1,s2,s3,s4,s5⟩:=o.append iL pL (vO iL c.args h') (by omega) (bytes:=16) (by have:=JT hf i;unfold cG;omega);have ld:∀ j,j<4->∀ h,ag none (.ef (r.body.l.flatMap bP) (i*4+j)) h=(bP c)[j]?:=fun j hj h=>fy iH hv hj;rw [F.bQ.aT];simp only [e1,e3,e4,aR,reduceAdd,reduceEqDiff,reduceIte,aj q0,aO,aZ hi,aV r.body hi];simp only [aR,reduceAdd,reduceEqDiff,reduceIte,Nat.add_assoc,reduceAdd,ld 3 (by omega),bP,s1,aI hi Bj];refine hn _ _ ⟨a2,?_,by omega,?_,e1,rfl,rfl⟩
   ·rw [s3 0 (by omega) (fun hb=>by have:=o.ge hb;omega)];exact q0
   ·rw [take_add_one,hv,flatMap_append,<- append_assoc];simpa using s2
  ·rintro e h' ⟨a,q0,qn,o,e1,e3,e4⟩ K' hx;rw [jD (dK _)] at o;have hal:(uR r).length<=3000000:=by have:=JT hf r.body.l.length;rw [jD (dK _)] at this;exact this
   have qX:(uR r).length<=cE:=by unfold cE;omega
   have o':Own encS 1 1 h' a (uR r):=o;rw [F.bQ.aT];simp only [e1,e4,aR,reduceAdd,reduceEqDiff,reduceIte,aj q0,aO,aS];rw [hx,F.bQ.aF]
   refine aD 0 (uR r).length (zero_le _) (fun i e h2=>∃ b,bu h' h2/\Own encS 1 h'.next h2 b (eZ [] ((uR r).take i))/\e 3=a/\e 5=b/\e 6 = .int .i64 (i:Int))
    ⟨.ax,bu.refl _,by simpa [eZ] using Own.nil,by simp only [bL,reduceEqDiff,reduceIte,e3],rfl,rfl⟩ ?_ ?_
   ·rintro i e h2 _ hi ⟨b,x2,ob,e3,e5,e6⟩ K2 hn fo hr hp;have hv:(uR r)[i]?=some (uR r)[i]:=ez hi;generalize (uR r)[i]=s at hv;have oa:=o'.ext x2;obtain ⟨q,_,g1,g2⟩:=uH oa hv
    have hlb:(eZ [] ((uR r).take i)).length<=3000000:=by
     have h1:=pN ((uR r).take i) [];have h2:=length_take_le' i (uR r);simp only [length_nil] at h1;omega
    have ace:((eZ [] ((uR r).take i)).any fun x=>x==s)=(eZ [] ((uR r).take i)).any fun x=>s==x:=by
     congr 1;funext x;exact Bool.eq_iff_iff.2 ⟨fun h=>by rw [beq_iff_eq] at h ⊢;exact h.symm,fun h=>by rw [beq_iff_eq] at h ⊢;exact h.symm⟩
    have jb:=Bd (o:=[]) hv;unfold DV at jb;rw [F.bQ.dm];simp only [e3,e5,e6,oa.len,aR,reduceAdd,reduceEqDiff,reduceIte,aZ hi,g1,g2];refine ai (dH ob (by unfold cE;omega) ?_);rw [ace];simp only [aR,reduceAdd,reduceEqDiff,reduceIte]
    cases hq:(eZ [] ((uR r).take i)).any fun x=>s==x with
    |true=>
     rw [hq,if_pos rfl] at jb;simp only [Bool.not_true,aK,aI hi qX,an];exact hn _ _ ⟨b,x2,by rw [jb];exact ob,e3,e5,rfl⟩
    |false=>
     rw [hq,if_neg (by simp)] at jb;obtain ⟨b2,h3,p1,p2,p3,p4,p5,p6⟩:=ob.push iL pL x2.next (bytes:=16) (by unfold cG;omega) s
     simp only [Bool.not_false,aL,e3,e5,e6,g1,g2,aR,reduceAdd,reduceEqDiff,reduceIte,Wo,p1,aI hi qX];exact hn _ _ ⟨b2,p5 h' x2 (dK _),by rw [jb];exact p2,e3,rfl,rfl⟩
   ·rintro e h2 ⟨b,x2,ob,e3,e5,e6⟩ K2 fo;have oa:=o'.ext x2;rw [F.bQ.dm];simp only [e3,e6,oa.len,aR,reduceAdd,reduceEqDiff,reduceIte,aS];rw [fo,F.bQ.cq];rw [jD (dK _),<- Ea] at ob;simp only [bL,reduceEqDiff,reduceIte,e5]
    obtain ⟨x,jO,fo⟩:=ob.LV (fun v y hy=>by
     simp only [encS,mem_cons,not_mem_nil,_root_.or_false] at hy
     subst hy;exact .scalar _ rfl)
    exact cu.2 ⟨b,x,rfl,jO,fo⟩
 refine main.frozen (by have:=fN r;simpa [aO,AV.cN,AV.pure] using this) fun o h' ho=>?_;obtain ⟨v,x,rfl,hx,hfz⟩:=cu.1 ho;exact ⟨v,_,rfl,hfz,hK x hx⟩
def NA(a b:Int):Int:=if b>a then b else a
theorem JU(a b:Int):wT true (.int .i64 a) [.int .i64 b]=some (.int .i64 (NA a b)):=by simp [wT,K6,NA]
def iu(ps:List Nat):Int:=ps.foldl (fun a (p:Nat)=>NA a (p:Int)) (-1)
theorem Rn{t:b8}:s ∈ DV o t↔s ∈ o\/s=t:=by
 unfold DV;split
 ·rename_i h;obtain ⟨x,hx,hq⟩:=List.any_eq_true.1 h;rw [beq_iff_eq] at hq;exact ⟨.inl,fun h=>h.elim id fun e=>by rw [e,hq];exact hx⟩
 ·simp
theorem Eb{s:b8}:∀ {l o:List b8},s ∈ eZ o l↔s ∈ o\/s ∈ l
 |[],o=>by simp [eZ]
 |t :: l,o=>by
  show s ∈ eZ (DV o t) l↔_;rw [Eb,Rn,mem_cons,_root_.or_assoc]
theorem JV{r:aN}:s ∈ varsOf r↔s ∈ uR r:=by rw [Ea,Eb];simp
theorem oR{r:aN}:∀ s ∈ r.args.l,s ∈ varsOf r:=fun s hs=>JV.2 (mem_append_left _ hs)
theorem vQ{r:aN}{c:eV}(hc:c ∈ r.body.l):∀ s ∈ c.args.l,s ∈ varsOf r:=fun s hs=>JV.2 (mem_append_right _ (mem_flatMap.2 ⟨c,hc,hs⟩))
def iZ(vars xs:List b8):List Int:=(placesOf vars xs).map fun (p:Nat)=>(p:Int)
theorem Ro(i n:Int)(nm:b8)(xs:Sl b8)(ys:Sl eV)(w:RW):iD [.int .i64 0,.str [],.ax,.ax,.int .i64 0,.ax,.ax,.ax] [(0,1),(1,3),(4,1),(5,1)] [.int .i64 i,.agg [.str nm,ak encS 1 xs,ak bP 4 ys],.int .i64 n,w.av]=some (.agg [.int .i64 i,.str nm,ak encS 1 xs,ak bP 4 ys,.int .i64 n,w.av,.ax,.ax]):=by
 cases xs<;>cases ys<;>cases w<;>rfl
theorem Rp(s:St):dG TP s Tryz.f102.results.toList=(match ag (some 8) (s.env 4) s.h,(some []:Option (List AV)) with|some v,some vs=>some (v :: vs)|_,_=>none):=by kernel_rfl
theorem NB(a b c d e f g i:AV):ju (some 8) [a,b,c,d,e,f,g,i] 0=some (.agg [a,b,c,d,e,f,g,i]):=rfl
def bI(i:Int)(r:aN)(n:Int)(hd c l:AV):List AV:=[.int .i64 i,.str r.name,ak encS 1 r.args,ak bP 4 r.body,.int .i64 n,hd,c,l]
theorem JW(i:Int)(r:aN)(n:Int)(w:RW){c l:AV}(hc:bx [c]=true)(hl:bx [l]=true):bx (bI i r n w.av c l)=true:=by
 have hw:w.av.one=true:=by cases w<;>rfl
 unfold bI;simp only [bx,Bool.and_true] at hc hl ⊢;simp only [fR,hw,hc,hl,Bool.and_true];rfl
theorem Rq{P:Nat}{cs vs:List AV}(hP:h.get P=some (.cells cs))(hc:cs.length=8)(hv:vs.length=8)(h1:bx vs=true):bf 8 (.ptr P 0) (.agg vs) h=some (h.set P (.cells vs)):=by
 rw [cK hP (by exact hv) (by exact h1) (by omega)];congr 1
 match cs,hc,vs,hv with
 |[a,b,c,d,e,f,g,i],_,[a',b',c',d',e',f',g',i'],_=>rfl
set_option maxHeartbeats 2000000 in
theorem cC{i0:Int}{r:aN}(hf:r.lJ){h:Heap}{K:Out->Heap->Bool}
  (hK:∀ (hd:Sl Int) (cs:Sl (Sl Int)) (ls:Sl Int),hd.l=iZ (varsOf r) r.args.l->cs.l.map Sl.l=r.body.l.map (fun c=>iZ (varsOf r) c.args.l)->ls.l=r.body.l.map (fun c=>iu (placesOf (varsOf r) c.args.l)) ->
   K (.ret (.agg (bI i0 r (varsOf r).length (ak encI 1 hd) (ak cU 1 cs) (ak encI 1 ls)))) h=true) :
  Sem TP 102 [.int .i64 i0,.agg [.str r.name,ak encS 1 r.args,ak bP 4 r.body]] h K:=by
 have Bj:r.body.l.length<=cE:=by have:=hf.2.1;unfold cE;omega
 have A9:(varsOf r).length<=3000000:=by have:=JL hf r.body.l.length;rw [jD (dK _)] at this;exact this
 have gen:∀ R:Out->Heap->Bool,(∀ (h':Heap) (nY:RW) (cW lW:AV) (cs:Sl (Sl Int)) (ls:Sl Int),Fz true h' nY.av (ak encI 1 (nY.map (·.2)))->nY.l=iZ (varsOf r) r.args.l->Fz true h' cW (ak cU 1 cs)->Fz true h' lW (ak encI 1 ls) ->
   cs.l.map Sl.l=r.body.l.map (fun c=>iZ (varsOf r) c.args.l)->ls.l=r.body.l.map (fun c=>iu (placesOf (varsOf r) c.args.l))->R (.ret (.agg (bI i0 r (varsOf r).length nY.av cW lW))) h'=true) ->
   Sem TP 102 [.int .i64 i0,.agg [.str r.name,ak encS 1 r.args,ak bP 4 r.body]] Heap.empty R:=by
  intro R fin;refine F.Ae ?_;rw [F.BK];have hb:eW (.agg [.str r.name,ak encS 1 r.args,ak bP 4 r.body])=some (aO r):=dg (jG r);simp only [hb,an,bJ,Heap.aJ];have g0:(Heap.alloc (Heap.alloc Heap.empty (.cells (aO r))) (.cells [.int .i64 0,.str [],.ax,.ax,.int .i64 0,.ax,.ax,.ax])).get 0=some (.cells (aO r)):=by simp [Heap.aQ,bJ]
  have g1:(Heap.alloc (Heap.alloc Heap.empty (.cells (aO r))) (.cells [.int .i64 0,.str [],.ax,.ax,.int .i64 0,.ax,.ax,.ax])).get 1=some (.cells [.int .i64 0,.str [],.ax,.ax,.int .i64 0,.ax,.ax,.ax]):=by simp [Heap.aQ,bJ]
  have gn:(Heap.alloc (Heap.alloc Heap.empty (.cells (aO r))) (.cells [.int .i64 0,.str [],.ax,.ax,.int .i64 0,.ax,.ax,.ax])).next=2:=rfl
  generalize (Heap.alloc (Heap.alloc Heap.empty (.cells (aO r))) (.cells [.int .i64 0,.str [],.ax,.ax,.int .i64 0,.ax,.ax,.ax]))=H at g0 g1 gn ⊢;simp only [aj g0,aO,sG,an];refine ai (dx hf fun x jO=>?_);have Nz:x.l.length<=cE:=by rw [jO];unfold cE;omega
  obtain ⟨H3,Nb,k2,ko,kn⟩:=lI (h:=H) (z:=.ax) (v:=ak encS 1 x) (by cases x<;>rfl) (by simp only [bx,fR];rfl);have q0:H3.get 0=some (.cells (aO r)):=by rw [ko 0 (by omega)];exact g0
  have q1:H3.get 1=some (.cells [.int .i64 0,.str [],.ax,.ax,.int .i64 0,.ax,.ax,.ax]):=by rw [ko 1 (by omega)];exact g1
  rw [gn] at Nb k2;simp only [aR,reduceAdd,reduceEqDiff,reduceIte,gn,Nb];simp only [aR,reduceAdd,reduceEqDiff,reduceIte,aj q0,aj k2,aO,sG,show H3.next=3 by omega];have gx:=bu.alloc H3 (.cells [.int .i64 0,.str [],.ax,.ax,.int .i64 0,.ax,.ax,.ax])
  have g3:(H3.alloc (.cells [.int .i64 0,.str [],.ax,.ax,.int .i64 0,.ax,.ax,.ax])).get 3=some (.cells [.int .i64 0,.str [],.ax,.ax,.int .i64 0,.ax,.ax,.ax]):=by
   have:=aA H3 (.cells [.int .i64 0,.str [],.ax,.ax,.int .i64 0,.ax,.ax,.ax]);rw [show H3.next=3 by omega] at this;exact this
  have gn3:(H3.alloc (.cells [.int .i64 0,.str [],.ax,.ax,.int .i64 0,.ax,.ax,.ax])).next=4:=by rw [Heap.aJ];omega
  generalize (H3.alloc (.cells [.int .i64 0,.str [],.ax,.ax,.int .i64 0,.ax,.ax,.ax]))=H4 at gx g3 gn3 ⊢;have p0:H4.get 0=some (.cells (aO r)):=by rw [gx.get 0 (by omega)];exact q0
  have p1:H4.get 1=some (.cells [.int .i64 0,.str [],.ax,.ax,.int .i64 0,.ax,.ax,.ax]):=by rw [gx.get 1 (by omega)];exact q1
  have p2:H4.get 2=some (.cells [ak encS 1 x]):=by rw [gx.get 2 (by omega)];exact k2
  refine ai (JR p2 (by omega) (fun s hs=>by rw [jO];exact oR s hs) (by have:=hf.1;omega) Nz fun a h5 oa x5=>?_);rw [gn3] at oa;obtain ⟨nY,rfl,hdl,hdk⟩:=Rk oa;have r0:h5.get 0=some (.cells (aO r)):=by rw [x5.get 0 (by omega)];exact p0
  have r1:h5.get 1=some (.cells [.int .i64 0,.str [],.ax,.ax,.int .i64 0,.ax,.ax,.ax]):=by rw [x5.get 1 (by omega)];exact p1
  have r2:h5.get 2=some (.cells [ak encS 1 x]):=by rw [x5.get 2 (by omega)];exact p2
  have r3:h5.get 3=some (.cells [.int .i64 0,.str [],.ax,.ax,.int .i64 0,.ax,.ax,.ax]):=by rw [x5.get 3 (by omega)];exact g3
  have rn:=x5.next
  have iJ:=Rq (vs:=bI i0 r (varsOf r).length nY.av .ax .ax) r3 rfl rfl (JW _ _ _ _ rfl rfl);have uj:=Ro i0 (varsOf r).length r.name r.args r.body nY;rw [<- jO] at iJ uj;simp only [aR,reduceAdd,reduceEqDiff,reduceIte,aj r0,aj r2,aO,sG,AV.beq_refl,Bool.and_self,Bool.and_true,if_true,uj];simp only [bI] at iJ;simp only [iJ,aR,reduceAdd,reduceEqDiff,reduceIte]
  have t0:IF 4 (h5.set 3 (.cells (bI i0 r x.l.length nY.av .ax .ax))) .ax .ax [] [] [nY]:=
   (IF.low ⟨.nil,.nil,fun w hw p hp=>by
    rw [mem_singleton] at hw;subst hw;obtain ⟨a1,a2,a3⟩:=hdk p hp
    exact ⟨a1,a2,a3,by simp [cL],by simp [cL]⟩,fun b hb=>by simp [cL] at hb⟩ (by omega) _)
  have s0:(h5.set 3 (.cells (bI i0 r x.l.length nY.av .ax .ax))).get 0=some (.cells (aO r)):=by rw [Heap.aP,if_neg (by omega)];exact r0
  have s1:(h5.set 3 (.cells (bI i0 r x.l.length nY.av .ax .ax))).get 1=some (.cells [.int .i64 0,.str [],.ax,.ax,.int .i64 0,.ax,.ax,.ax]):=by rw [Heap.aP,if_neg (by omega)];exact r1
  have s2:(h5.set 3 (.cells (bI i0 r x.l.length nY.av .ax .ax))).get 2=some (.cells [ak encS 1 x]):=by rw [Heap.aP,if_neg (by omega)];exact r2
  have s3:(h5.set 3 (.cells (bI i0 r x.l.length nY.av .ax .ax))).get 3=some (.cells (bI i0 r x.l.length nY.av .ax .ax)):=by rw [Heap.aP,if_pos rfl]
  have sn:(h5.set 3 (.cells (bI i0 r x.l.length nY.av .ax .ax))).next=h5.next:=Heap.bp _ _ _
  simp only [bI] at t0 s0 s1 s2 s3 sn;generalize (h5.set 3 (.cells [.int .i64 i0,.str r.name,ak encS 1 r.args,ak bP 4 r.body,.int .i64 (x.l.length:Int),nY.av,.ax,.ax]))=H6 at t0 s0 s1 s2 s3 sn ⊢;simp only [aj s0,aO,aR,reduceAdd,reduceEqDiff,reduceIte]
  refine aD 0 r.body.l.length (zero_le _) (fun i e h'=>∃ cW lW ws ls,IF 4 h' cW lW ws ls (nY :: ws)/\ws.map RW.l=(r.body.l.take i).map (fun c=>iZ (varsOf r) c.args.l)/\ls=(r.body.l.take i).map (fun c=>iu (placesOf (varsOf r) c.args.l)) /\
   h'.get 1=some (.cells [.int .i64 0,.str [],.ax,.ax,.int .i64 0,.ax,.ax,.ax])/\h'.get 2=some (.cells [ak encS 1 x])/\h'.get 3=some (.cells [.int .i64 i0,.str r.name,ak encS 1 r.args,ak bP 4 r.body,.int .i64 (x.l.length:Int),nY.av,cW,lW])/\4<=h'.next /\
   e 4 = .ptr 1 0/\e 6 = .func 144 [] [.ptr 2 0]/\e 7 = .ptr 3 0/\e 28=ak bP 4 r.body/\e 29 = .int .i64 (r.body.l.length:Int)/\e 30 = .int .i64 (i:Int))
   ⟨.ax,.ax,[],[],t0,rfl,rfl,s1,s2,s3,by omega,rfl,rfl,rfl,rfl,rfl,rfl⟩ ?_ ?_
  ·rintro i e h' _ hi ⟨cW,lW,ws,ls,tw,hws,L9,u1,u2,u3,un,e4,e6,e7,KU,Wq,Wr⟩ K' hn hx hr hp;have hv:r.body.l[i]?=some r.body.l[i]:=ez hi;generalize r.body.l[i]=c at hv;have vR:=iz hv;have afb:=hf.2.2 c vR;obtain ⟨H2,qW,c1,co,cn⟩:=cx (h:=h') (zs:=[.int .i64 0,.bool false,.str [],.ax]) (cs:=bP c) (n:=4) rfl rfl (iI c);have x2:bu h' H2:=⟨by omega,fun b hb=>co b (by omega)⟩
   rw [F.cC.aT];simp only [e6,KU,Wq,Wr,aR,reduceAdd,reduceEqDiff,reduceIte,aZ hi,aV r.body hi,dO iH hv,qW];simp only [aR,reduceAdd,reduceEqDiff,reduceIte,aj c1,bP,fL,nil_append,cons_append];refine ai (JR (xs:=c.args) (by rw [x2.get 2 (by omega)];exact u2) (by omega) (fun s hs=>by rw [jO];exact vQ vR s hs) (by omega) Nz fun a h3 oa x3=>?_);rw [jO] at oa;obtain ⟨w,rfl,hwl,hwk⟩:=Rk oa;have Rr:=x2.trans x3;have tw3:=tw.ext Rr;have v1:h3.get 1=some (.cells [.int .i64 0,.str [],.ax,.ax,.int .i64 0,.ax,.ax,.ax]):=by rw [Rr.get 1 (by omega)];exact u1
   have v2:h3.get 2=some (.cells [ak encS 1 x]):=by rw [Rr.get 2 (by omega)];exact u2
   have v3:h3.get 3=some (.cells [.int .i64 i0,.str r.name,ak encS 1 r.args,ak bP 4 r.body,.int .i64 (x.l.length:Int),nY.av,cW,lW]):=by rw [Rr.get 3 (by omega)];exact u3
   have vn:=Rr.next
   have twh:IF 4 h3 cW lW ws ls (nY :: ws++[w]):=tw3.hold (j:=H2.next) (fun p hp=>by
    obtain ⟨a1,a2,a3⟩:=hwk p hp
    exact ⟨a1,by omega,a2,a3⟩) (fun b hb=>by have:=tw.oc.lt hb;omega) (fun b hb=>by have:=tw.ol.lt hb;omega)
   have qJ:(placesOf (varsOf r) c.args.l).length<=cE:=by unfold placesOf cE;rw [length_map];omega
   have hlen:∀ h,bX .slice w.av h=some (.int .i64 ((placesOf (varsOf r) c.args.l).length:Int)):=fun h=>by rw [oa.len];simp
   simp only [aR,reduceAdd,reduceEqDiff,reduceIte,hlen]
   refine aD 0 (placesOf (varsOf r) c.args.l).length (zero_le _) (fun j e h2=>h2=h3/\e 4 = .ptr 1 0/\e 6 = .func 144 [] [.ptr 2 0]/\e 7 = .ptr 3 0/\e 28=ak bP 4 r.body/\e 29 = .int .i64 (r.body.l.length:Int)/\e 30 = .int .i64 (i:Int) /\
    e 10=w.av/\e 11 = .int .i64 (iu ((placesOf (varsOf r) c.args.l).take j))/\e 39=w.av/\e 40 = .int .i64 ((placesOf (varsOf r) c.args.l).length:Int)/\e 41 = .int .i64 (j:Int)) ⟨rfl,e4,e6,e7,KU,Wq,Wr,rfl,rfl,rfl,rfl,rfl⟩ ?_ ?_
   ·rintro j e h2 _ hj ⟨rfl,e4,e6,e7,KU,Wq,Wr,jm,nU,OS,NC,e41⟩ K2 qj fo qL DY;have KV:(placesOf (varsOf r) c.args.l)[j]?=some (placesOf (varsOf r) c.args.l)[j]:=ez hj;generalize (placesOf (varsOf r) c.args.l)[j]=p at KV;have Tn:((placesOf (varsOf r) c.args.l).map fun (p:Nat)=>(p:Int))[j]?=some (p:Int):=by rw [getElem?_map,KV];rfl
    obtain ⟨b,_,_,i1,_,i3⟩:=oa.get nH Tn;have i3':ag none (.ptr b (j*1)) h2=some (.int .i64 (p:Int)):=i3 0 (by omega);rw [F.cC.dm];simp only [nU,OS,NC,e41,aR,reduceAdd,reduceEqDiff,reduceIte,aZ hj,i1,i3',JU,aI hj qJ];refine qj _ _ ⟨rfl,e4,e6,e7,KU,Wq,Wr,jm,?_,OS,NC,rfl⟩;have:iu ((placesOf (varsOf r) c.args.l).take (j+1))=NA (iu ((placesOf (varsOf r) c.args.l).take j)) (p:Int):=by unfold iu;rw [take_add_one,KV];simp
    rw [this];rfl
   ·rintro e h2 ⟨rfl,e4,e6,e7,KU,Wq,Wr,jm,nU,OS,NC,e41⟩ K2 fo;rw [jD (dK _)] at nU;have aj6:ws.length<=1500:=by have h1:=congrArg List.length hws;simp only [length_map] at h1;have h2:=length_take_le' i r.body.l;have:=hf.2.1;omega
    have aj7:ls.length<=1500:=(by rw [L9,length_map];have h2:=length_take_le' i r.body.l;have:=hf.2.1;omega);obtain ⟨c',l',m2,m3,t1,t2,t3,t4,t5⟩:=twh.push (by omega) (by omega) (by omega) w (iu (placesOf (varsOf r) c.args.l));have y3:m2.get 3=some (.cells [.int .i64 i0,.str r.name,ak encS 1 r.args,ak bP 4 r.body,.int .i64 (x.l.length:Int),nY.av,cW,lW]):=by rw [(t4 3 (by omega)).1];exact v3
    have z3:m3.get 3=some (.cells [.int .i64 i0,.str r.name,ak encS 1 r.args,ak bP 4 r.body,.int .i64 (x.l.length:Int),nY.av,cW,lW]):=(by rw [(t4 3 (by omega)).2];exact v3);obtain ⟨w1,w2⟩:=uL t3.oc;obtain ⟨w3,w4⟩:=uL t3.ol
    have st1:bf 1 (.ptr 3 6) c' m3=some (m3.set 3 (.cells [.int .i64 i0,.str r.name,ak encS 1 r.args,ak bP 4 r.body,.int .i64 (x.l.length:Int),nY.av,c',lW])):=by
     rw [cK (n:=1) z3 (by rw [w1];rfl) (by rw [w1];exact w2) (by simp),w1];rfl
    have z4:(m3.set 3 (.cells [.int .i64 i0,.str r.name,ak encS 1 r.args,ak bP 4 r.body,.int .i64 (x.l.length:Int),nY.av,c',lW])).get 3=some (.cells [.int .i64 i0,.str r.name,ak encS 1 r.args,ak bP 4 r.body,.int .i64 (x.l.length:Int),nY.av,c',lW]):=by rw [Heap.aP,if_pos rfl]
    have XN:bf 1 (.ptr 3 7) l' (m3.set 3 (.cells [.int .i64 i0,.str r.name,ak encS 1 r.args,ak bP 4 r.body,.int .i64 (x.l.length:Int),nY.av,c',lW]))=some ((m3.set 3 (.cells [.int .i64 i0,.str r.name,ak encS 1 r.args,ak bP 4 r.body,.int .i64 (x.l.length:Int),nY.av,c',lW])).set 3 (.cells [.int .i64 i0,.str r.name,ak encS 1 r.args,ak bP 4 r.body,.int .i64 (x.l.length:Int),nY.av,c',l'])):=by
     rw [cK (n:=1) z4 (by rw [w3];rfl) (by rw [w3];exact w4) (by simp),w3];rfl
    rw [F.cC.dm];simp only [NC,e41,aR,reduceAdd,reduceEqDiff,reduceIte,aS];rw [fo,F.cC.cq];simp only [e7,jm,nU,Wr,aR,reduceAdd,reduceEqDiff,reduceIte,aj v3,ab8,Rc,Heap.aJ];rw [aj (r:=none) (o:=7) (h:=(Heap.alloc h2 (.cells (zo w)))) (cs:=[.int .i64 i0,.str r.name,ak encS 1 r.args,ak bP 4 r.body,.int .i64 (x.l.length:Int),nY.av,cW,lW]) (by rw [Heap.aQ,if_neg (by omega)];exact v3)];simp only [aR,reduceAdd,reduceEqDiff,reduceIte,Rc,Heap.aJ,t1,aj y3,AV.beq_refl,Bool.and_self,if_true,t2,st1,XN,aI hi Bj];refine hn _ _ ⟨c',l',ws++[w],ls++[iu (placesOf (varsOf r) c.args.l)],(t3.low (by omega) _).low (by omega) _,?_,?_,?_,?_,by rw [Heap.aP,if_pos rfl],by rw [Heap.bp,Heap.bp];omega,e4,e6,e7,KU,Wq,rfl⟩
    ·rw [map_append,hws,take_add_one,hv,map_append];simp only [map_cons,map_nil,toList_some];rw [hwl];rfl
    ·rw [L9,take_add_one,hv,map_append];rfl
    ·rw [Heap.aP,if_neg (by omega),Heap.aP,if_neg (by omega),(t4 1 (by omega)).2];exact v1
    ·rw [Heap.aP,if_neg (by omega),Heap.aP,if_neg (by omega),(t4 2 (by omega)).2];exact v2
  ·rintro e h' ⟨cW,lW,ws,ls,tw,hws,L9,u1,u2,u3,un,e4,e6,e7,KU,Wq,Wr⟩ K' hx;rw [jD (dK _)] at hws L9;obtain ⟨_,w2⟩:=uL tw.oc;obtain ⟨_,w4⟩:=uL tw.ol;have ach:=Rq (vs:=bI i0 r x.l.length nY.av cW lW) u1 rfl rfl (JW _ _ _ _ w2 w4);simp only [bI] at ach;rw [F.cC.aT];simp only [Wq,Wr,aR,reduceAdd,reduceEqDiff,reduceIte,aS];rw [hx,F.cC.aF];simp only [e4,e7,aR,reduceAdd,reduceEqDiff,reduceIte,aj u3,NB,ach,Rp];have tf:=tw.low (by omega:1<4) (.cells [.int .i64 i0,.str r.name,ak encS 1 r.args,ak bP 4 r.body,.int .i64 (x.l.length:Int),nY.av,cW,lW]);have gf:(h'.set 1 (.cells [.int .i64 i0,.str r.name,ak encS 1 r.args,ak bP 4 r.body,.int .i64 (x.l.length:Int),nY.av,cW,lW])).get 1=some (.cells [.int .i64 i0,.str r.name,ak encS 1 r.args,ak bP 4 r.body,.int .i64 (x.l.length:Int),nY.av,cW,lW]):=by rw [Heap.aP,if_pos rfl]
   simp only [bL,reduceEqDiff,reduceIte,e4,aj gf,NB,an,oneOf];obtain ⟨cs,YO,cs2⟩:=tf.yB (fun w hw=>mem_cons_of_mem _ hw)
   obtain ⟨lx,lx1,lx2⟩:=tf.ol.LV (fun v y hy=>by
    simp only [encI,mem_cons,not_mem_nil,_root_.or_false] at hy
    subst hy;exact .scalar _ rfl)
   have hfz:Fz true (h'.set 1 (.cells [.int .i64 i0,.str r.name,ak encS 1 r.args,ak bP 4 r.body,.int .i64 (x.l.length:Int),nY.av,cW,lW])) nY.av (ak encI 1 (nY.map (·.2))):=by
    cases nY with
    |none=>exact .dX rfl
    |some p=>exact vN (tf.ok _ mem_cons_self p rfl).2.2.1
   have:=fin _ nY cW lW cs lx hfz (by rw [<- jO];exact hdl) cs2 lx2 (by rw [YO,hws]) (by rw [lx1,L9]);rw [<- jO] at this;exact this
 have main:=gen (fun o h'=>yes (∃ (nY:RW) (cW lW:AV) (cs:Sl (Sl Int)) (ls:Sl Int),o = .ret (.agg (bI i0 r (varsOf r).length nY.av cW lW))/\Fz true h' nY.av (ak encI 1 (nY.map (·.2)))/\nY.l=iZ (varsOf r) r.args.l/\Fz true h' cW (ak cU 1 cs)/\Fz true h' lW (ak encI 1 ls) /\
   cs.l.map Sl.l=r.body.l.map (fun c=>iZ (varsOf r) c.args.l)/\ls.l=r.body.l.map (fun c=>iu (placesOf (varsOf r) c.args.l)))) (fun h' nY cW lW cs ls f1 f2 f3 f4 f5 f6=>cu.2 ⟨nY,cW,lW,cs,ls,rfl,f1,f2,f3,f4,f5,f6⟩)
 refine main.frozen (by have:=fN r;simpa [aO,AV.cN,AV.pure] using this) fun o h' ho=>?_;obtain ⟨nY,cW,lW,cs,ls,rfl,f1,f2,f3,f4,f5,f6⟩:=cu.1 ho
 have fl:mu true h' (bI i0 r (varsOf r).length nY.av cW lW) (bI i0 r (varsOf r).length (ak encI 1 (nY.map (·.2))) (ak cU 1 cs) (ak encI 1 ls)):=
  .cons (.scalar _ rfl) (.cons (.scalar _ rfl) (.cons (.dX (b7 kj _)) (.cons (.dX (b7 yb _)) (.cons (.scalar _ rfl) (.cons f1 (.cons f3 (.cons f4 .nil)))))))
 exact ⟨_,_,rfl,.agg _ _ fl.len fl.rel,hK (nY.map (·.2)) cs ls (by rw [<- f2];cases nY<;>rfl) f5 f6⟩
theorem lK(vs:List Int)(ps:List Nat):(de vs ps).length=ps.length:=by simp [de]
theorem oS(hb:iY n vs=true){ps:List Nat}(tu:∀ p ∈ ps,p<vs.length):iY n (de vs ps)=true:=by
 unfold iY at hb ⊢;rw [List.all_eq_true] at hb ⊢;intro v hv;unfold de at hv;obtain ⟨p,hp,rfl⟩:=mem_map.1 hv;have qJ:=tu p hp;refine hb _ ?_;rw [getD_eq_getElem?_getD,ez qJ];exact getElem_mem qJ
theorem mc{vars xs:List b8}(h:∀ s ∈ xs,s ∈ vars):∀ p ∈ placesOf vars xs,p<vars.length:=fun p hp=>by
 unfold placesOf at hp;obtain ⟨s,hs,rfl⟩:=mem_map.1 hp;exact idxOf_lt_length_of_mem (h s hs)
structure zq (n:Nat) (D:b8->Option (Nat×List Bool)) (r:aN):Prop where
 rel:∀ c ∈ r.body.l,c.kind=0->n ^ c.args.l.length<=4096/\∃ p,D c.name=some p/\p.2.length=n ^ c.args.l.length
 two:∀ c ∈ r.body.l,c.kind=1\/c.kind=2->c.args.l.length=2
 kinds:∀ c ∈ r.body.l,c.kind=0\/c.kind=1\/c.kind=2
 arity:∀ c ∈ r.body.l,c.args.l.length<=12
def cM(r:aN)(c:eV):List Nat:=placesOf (varsOf r) c.args.l
def B4(n:Nat)(look:b8->Nat->Bool)(r:aN)(vs:List Int)(upto:Int):Bool:=r.body.l.all fun c=>!decide (iu (cM r c)=upto)||eE n look c (de vs (cM r c))
set_option maxHeartbeats 1000000 in
theorem JX{lo:Nat}{r:aN}{nv:Int}{hd:Sl Int}{cs:Sl (Sl Int)}{ls:Sl Int}(hf:r.lJ)(hcs:cs.l.map Sl.l=r.body.l.map (fun c=>iZ (varsOf r) c.args.l))(L9:ls.l=r.body.l.map (fun c=>iu (placesOf (varsOf r) c.args.l)))
  (hS:h.get S=some (.cells [.int .i64 (n:Int),.map B])) (hD:dB D h B lo) (Ri:S<h.next) (h0:h.get N0=some (.cells [.ptr S 0])) (h0n:N0<h.next) (h1:h.get N1=some (.cells (bI i0 r nv (ak encI 1 hd) (ak cU 1 cs) (ak encI 1 ls)))) (h1n:N1<h.next)
  (h4:h.get N4=some (.cells [.slice V 0 vs.length 1])) (h4n:N4<h.next) (hV:h.get V=some (.cells (vs.map iv))) (UR:V<h.next) (A9:vs.length=(varsOf r).length) (OH:iY n vs=true) (n1:1<=n) (hk:zq n D r) {upto:Int}
  (hK:∀ h',bu h h'->K (.ret (.bool (B4 n (dz D) r vs upto))) h'=true):Sem TP 157 [.int .i64 upto,.ptr N1 0,.ptr N0 0,.ptr N4 0] h K:=by
 have Bj:r.body.l.length<=cE:=by have:=hf.2.1;unfold cE;omega
 have hcl:cs.l.length=r.body.l.length:=by have:=congrArg List.length hcs;simpa using this
 have XO:ls.l.length=r.body.l.length:=by rw [L9];simp
 refine F.su ?_;rw [F.tF];simp only [bI] at h1;simp only [aR,reduceAdd,reduceEqDiff,reduceIte,aj h1]
 refine aD 0 r.body.l.length (zero_le _) (fun i e h'=>bu h h'/\e 0 = .int .i64 upto/\e 1 = .ptr N1 0/\e 2 = .ptr N0 0/\e 3 = .ptr N4 0/\e 10=ak bP 4 r.body/\e 11 = .int .i64 (r.body.l.length:Int)/\e 12 = .int .i64 (i:Int) /\
  (r.body.l.take i).all (fun c=>!decide (iu (cM r c)=upto)||eE n (dz D) c (de vs (cM r c)))=true) ⟨bu.refl _,rfl,rfl,rfl,rfl,rfl,rfl,rfl,rfl⟩ ?_ ?_
 ·rintro i e h' _ hi ⟨x1,e0,e1,e2,e3,jm,nU,tO,ht⟩ K' hn hx hr hp;have hv:r.body.l[i]?=some r.body.l[i]:=ez hi;generalize r.body.l[i]=c at hv;have vR:=iz hv;obtain ⟨H2,qW,c1,co,cn⟩:=cx (h:=h') (zs:=[.int .i64 0,.bool false,.str [],.ax]) (cs:=bP c) (n:=4) rfl rfl (iI c);have x2:bu h H2:=x1.trans ⟨by omega,fun b hb=>co b (by omega)⟩;have q1:H2.get N1=some (.cells [.int .i64 i0,.str r.name,ak encS 1 r.args,ak bP 4 r.body,.int .i64 nv,ak encI 1 hd,ak cU 1 cs,ak encI 1 ls]):=by rw [x2.get _ h1n];exact h1
  have q0:H2.get N0=some (.cells [.ptr S 0]):=by rw [x2.get _ h0n];exact h0
  have q4:H2.get N4=some (.cells [.slice V 0 vs.length 1]):=by rw [x2.get _ h4n];exact h4
  have qV:H2.get V=some (.cells (vs.map iv)):=by rw [x2.get _ UR];exact hV
  have aci:ls.l[i]?=some (iu (cM r c)):=by rw [L9,getElem?_map,hv];rfl
  have n1x:=x1.next
  rw [F.cT.aT];simp only [e0,e1,e2,e3,jm,nU,tO,aR,reduceAdd,reduceEqDiff,reduceIte,aZ hi,aV r.body hi,dO iH hv,qW];simp only [aR,reduceAdd,reduceEqDiff,reduceIte,aj q1,aV ls (show i<ls.l.length by omega),iB aci,cI];by_cases hu:iu (cM r c)=upto
  ·have hci:i<cs.l.length:=by omega
   have kX:cs.l[i]?=some cs.l[i]:=ez hci
   have Gx:(cs.l[i]).l=(cM r c).map fun (p:Nat)=>(p:Int):=by
    have h3:(cs.l.map Sl.l)[i]?=some (iZ (varsOf r) c.args.l):=(by rw [hcs,getElem?_map,hv];rfl);rw [getElem?_map,kX] at h3;exact Option.some.inj h3
   generalize cs.l[i]=xi at kX Gx;have qJ:∀ p ∈ cM r c,p<vs.length:=by rw [A9];exact mc (vQ vR)
   have nZ:(cM r c).length=c.args.l.length:=by unfold cM placesOf;simp
   simp only [fh hu,aL,aR,reduceAdd,reduceEqDiff,reduceIte,aj q0,aj q4,aj q1,aj c1,bP,HY,aV cs hci,gK kX];refine ai (Ig (ps:=cM r c) qV (by have:=x2.next;omega) rfl Gx qJ (by rw [nZ];have:=hk.arity c vR;omega) fun h3 t1 x3 t2=>?_);have c3:h3.get h'.next=some (.cells (bP c)):=by rw [x3.get _ (by omega)];exact c1
   have q03:h3.get N0=some (.cells [.ptr S 0]):=by rw [x3.get _ (by have:=x2.next;omega)];exact q0
   have Rr:=x2.trans x3;simp only [aR,reduceAdd,reduceEqDiff,reduceIte,aj c3,aj q03,bP,HY,AV.beq_refl,Bool.and_self,Bool.and_true,if_true];have ta:=lK vs (cM r c);have hS3:h3.get S=some (.cells [.int .i64 (n:Int),.map B]):=by rw [Rr.get _ Ri];exact hS
   rw [<- ta];refine ai (JQ (D:=D) (lo:=lo) hS3 (hD.ext Rr) n1 t1 t2 (by have:=Rr.next;omega) (by rw [ta,nZ];exact hk.arity c vR) (oS OH qJ) (fun k0=>by rw [ta,nZ];exact hk.rel c vR k0) (fun Ih=>by rw [ta,nZ];exact hk.two c vR Ih) (hk.kinds c vR) fun h5 x5=>?_);simp only [aR,reduceAdd,reduceEqDiff,reduceIte]
   cases hcv:eE n (dz D) c (de vs (cM r c)) with
   |false=>
    simp only [Bool.not_false,aL];rw [hr,F.cT.bz];have:B4 n (dz D) r vs upto=false:=all_false hv (by rw [fh hu,hcv];rfl);rw [this] at hK;exact hK h5 (Rr.trans x5)
   |true=>
    simp only [Bool.not_true,aK,tO,aI hi Bj,an];exact hn _ _ ⟨Rr.trans x5,e0,e1,e2,e3,jm,nU,rfl,jB hv ht (by rw [hcv,Bool.or_true])⟩
  ·simp only [eT hu,aK,tO,aI hi Bj,an];exact hn _ _ ⟨x2,e0,e1,e2,e3,jm,nU,rfl,jB hv ht (by rw [eT hu];rfl)⟩
 ·rintro e h' ⟨x1,e0,e1,e2,e3,jm,nU,tO,ht⟩ K' hx;rw [jD (dK _)] at ht;rw [F.cT.aT];simp only [nU,tO,aR,reduceAdd,reduceEqDiff,reduceIte,aS];rw [hx,F.cT.aF];have:B4 n (dz D) r vs upto=true:=ht;rw [this] at hK;exact hK h' x1
structure Rs (σ:Type) (Gy:σ->Heap->Prop) (qQ:σ->b8->Option (Nat×List Bool)) (uS:List Int->σ->σ) (S B n lo base k:Nat) (r:aN) (g:FuncId) (ga gb:List AV) (V0:Nat):Prop where
 n1:1<=n
 sI:n<=64
 sb:S<base
 st:∀ s h,Gy s h->h.get S=some (.cells [.int .i64 (n:Int),.map B])/\dB (qQ s) h B lo/\zq n (qQ s) r
 gz:∀ s h h',Gy s h->base<=h.next->(∀ b,b<h.next->b≠V0->h'.get b=h.get b)->h.next<=h'.next->Gy s h'
 run:∀ s h vs K,Gy s h->base<=V0->V0<h.next->h.get V0=some (.cells (vs.map iv))->vs.length=k->iY n vs=true ->
  (∀ h',Gy (uS vs s) h'->(∀ b,base<=b->b<h.next->h'.get b=h.get b)->h.next<=h'.next->K (.ret (.bool true)) h'=true)->Sem TP g (ga++([.slice V0 0 vs.length 1]++gb)) h K
def jg{σ:Type}(qQ:σ->b8->Option (Nat×List Bool))(n:Nat)(r:aN)(v:Nat)(go:List Int->σ->List Int×σ)(acc:List Int×σ)(x:Nat):List Int×σ:=
 if B4 n (dz (qQ acc.2)) r (acc.1.set v (x:Int)) (v:Int)=true then go (acc.1.set v (x:Int)) acc.2 else (acc.1.set v (x:Int),acc.2)
def gq{σ:Type}(qQ:σ->b8->Option (Nat×List Bool))(uS:List Int->σ->σ)(n:Nat)(r:aN):Nat->Nat->List Int->σ->List Int×σ
 |0,_,vs,s=>(vs,uS vs s)
 |m+1,v,vs,s=>(List.range n).foldl (jg qQ n r v (gq qQ uS n r m (v+1))) (vs,s)
theorem nC(h:iY n vs=true)(v:Nat){x:Nat}(hx:x<n):iY n (vs.set v (x:Int))=true:=by
 unfold iY at h ⊢;rw [List.all_eq_true] at h ⊢;intro y hy;rcases mem_or_eq_of_mem_set hy with hy|rfl
 ·exact h y hy
 ·simp;omega
theorem jH{α β:Type}{P:α->Prop}{f:α->β->α}:∀ {l:List β} {a:α},P a->(∀ a b,b ∈ l->P a->P (f a b))->P (l.foldl f a)
 |[],a,h,_=>h
 |b :: l,a,h,hf=>jH (l:=l) (hf a b mem_cons_self h) fun a c hc=>hf a c (mem_cons_of_mem _ hc)
theorem JY{σ:Type}{qQ:σ->b8->Option (Nat×List Bool)}{uS:List Int->σ->σ}{n:Nat}{r:aN}{k:Nat}:∀ (m v:Nat) (vs:List Int) (s:σ),vs.length=k->iY n vs=true->(gq qQ uS n r m v vs s).1.length=k/\iY n (gq qQ uS n r m v vs s).1=true
 |0,v,vs,s,h1,h2=>⟨h1,h2⟩
 |m+1,v,vs,s,h1,h2=>by
  refine jH (P:=fun (a:List Int×σ)=>a.1.length=k/\iY n a.1=true) ⟨h1,h2⟩ fun a x hx ha=>?_;have OT:=mem_range.1 hx;have h3:(a.1.set v (x:Int)).length=k:=by rw [length_set];exact ha.1
  have h4:=nC ha.2 v OT;unfold jg;split
  ·exact JY m (v+1) _ _ h3 h4
  ·exact ⟨h3,h4⟩
structure Cells (S n k:Nat) (N0 N1 N2 N4 N5 N6 V base:Nat) (i0:Int) (r:aN) (hd:Sl Int) (cs:Sl (Sl Int)) (ls:Sl Int) (g:FuncId) (ga gb:List AV) (h:Heap):Prop where
 h0:h.get N0=some (.cells [.ptr S 0])
 h1:h.get N1=some (.cells (bI i0 r k (ak encI 1 hd) (ak cU 1 cs) (ak encI 1 ls)))
 h2:h.get N2=some (.cells [.func g ga gb])
 h4:h.get N4=some (.cells [.slice V 0 k 1])
 h5:h.get N5=some (.cells [.func 157 [] [.ptr N1 0,.ptr N0 0,.ptr N4 0]])
 h6:h.get N6=some (.cells [.func 159 [] [.ptr N1 0,.ptr N2 0,.ptr N4 0,.ptr N0 0,.ptr N5 0,.ptr N6 0]])
 lo:base<=N0/\base<=N1/\base<=N2/\base<=N4/\base<=N5/\base<=N6/\base<=V
 hi:N0<h.next/\N1<h.next/\N2<h.next/\N4<h.next/\N5<h.next/\N6<h.next/\V<h.next
 ne:N0≠V/\N1≠V/\N2≠V/\N4≠V/\N5≠V/\N6≠V
theorem Cells.gz{N2 N5 N6:Nat}{r:aN}{hd:Sl Int}{cs:Sl (Sl Int)}{ls:Sl Int}(c:Cells S n k N0 N1 N2 N4 N5 N6 V base i0 r hd cs ls g ga gb h)(hb:∀ b,base<=b->b<h.next->b≠V->h'.get b=h.get b)(hn:h.next<=h'.next) :
  Cells S n k N0 N1 N2 N4 N5 N6 V base i0 r hd cs ls g ga gb h':=by
 obtain ⟨h0,h1,h2,h4,h5,h6,⟨l0,l1,l2,l4,l5,l6,lv⟩,⟨i0',i1,i2,i4,i5,i6,iv'⟩,⟨n0,n1,n2,n4,n5,n6⟩⟩:=c
 exact ⟨by rw [hb _ l0 i0' n0];exact h0,by rw [hb _ l1 i1 n1];exact h1,by rw [hb _ l2 i2 n2];exact h2,by rw [hb _ l4 i4 n4];exact h4,by rw [hb _ l5 i5 n5];exact h5,by rw [hb _ l6 i6 n6];exact h6,
  ⟨l0,l1,l2,l4,l5,l6,lv⟩,⟨by omega,by omega,by omega,by omega,by omega,by omega,by omega⟩,⟨n0,n1,n2,n4,n5,n6⟩⟩
set_option maxHeartbeats 1000000 in
theorem OU{Gy:σ->Heap->Prop}{qQ:σ->b8->Option (Nat×List Bool)}{uS:List Int->σ->σ}{lo:Nat}{r:aN}(d:Rs σ Gy qQ uS S B n lo base k r g ga gb V)
  {N2 N5 N6:Nat} {hd:Sl Int} {cs:Sl (Sl Int)} {ls:Sl Int} (hf:r.lJ) (hk:k=(varsOf r).length) (Ii:k<=12) (hcs:cs.l.map Sl.l=r.body.l.map (fun c=>iZ (varsOf r) c.args.l)) (L9:ls.l=r.body.l.map (fun c=>iu (placesOf (varsOf r) c.args.l))) :
  ∀ (m v:Nat),v+m=k->∀ (vs:List Int) (s:σ) (h:Heap) (K:Out->Heap->Bool),Gy s h->base<=h.next->Cells S n k N0 N1 N2 N4 N5 N6 V base i0 r hd cs ls g ga gb h->h.get V=some (.cells (vs.map iv))->vs.length=k->iY n vs=true ->
   (∀ h',Gy (gq qQ uS n r m v vs s).2 h'->h'.get V=some (.cells ((gq qQ uS n r m v vs s).1.map iv))->(∀ b,base<=b->b<h.next->b≠V->h'.get b=h.get b)->h.next<=h'.next->K (.ret (.bool true)) h'=true) ->
   Sem TP 159 [.int .i64 (v:Int),.ptr N1 0,.ptr N2 0,.ptr N4 0,.ptr N0 0,.ptr N5 0,.ptr N6 0] h K:=by
 intro m
 induction m with
 |zero=>
  intro v hv vs s h K ha Li hc hV A9 OH hK;have h1:=hc.h1;simp only [bI] at h1;refine F.mG ?_;rw [F.mU];simp only [aR,reduceAdd,reduceEqDiff,reduceIte,aj h1,cI,fh (by omega:(v:Int)=(k:Int)),aL,aj hc.h2,aj hc.h4,fL];rw [<- A9];refine ai (d.run s h vs _ ha hc.lo.2.2.2.2.2.2 hc.hi.2.2.2.2.2.2 hV A9 OH fun h' a1 a2 a3=>?_);simp only [aR,reduceAdd,reduceEqDiff,reduceIte];exact hK h' a1 (by rw [a2 V hc.lo.2.2.2.2.2.2 hc.hi.2.2.2.2.2.2];exact hV) (fun b b1 b2 _=>a2 b b1 b2) a3
 |succ m ih=>
  intro v hv vs s h K ha Li hc hV A9 OH hK;have h1:=hc.h1;simp only [bI] at h1;have hS:=(d.st s h ha).1;have sI:=d.sI;refine F.mG ?_;rw [F.mU];simp only [aR,reduceAdd,reduceEqDiff,reduceIte,aj h1,cI,eT (by omega:¬ (v:Int)=(k:Int)),aK,aj hc.h0,cp,aj hS]
  refine aD 0 n (zero_le _) (fun x e h'=>∃ acc:List Int×σ,acc=(List.range x).foldl (jg qQ n r v (gq qQ uS n r m (v+1))) (vs,s)/\Gy acc.2 h'/\h'.get V=some (.cells (acc.1.map iv))/\acc.1.length=k/\iY n acc.1=true /\
   (∀ b,base<=b->b<h.next->b≠V->h'.get b=h.get b)/\h.next<=h'.next/\e 0 = .int .i64 (v:Int)/\e 1 = .ptr N1 0/\e 2 = .ptr N2 0/\e 3 = .ptr N4 0/\e 4 = .ptr N0 0/\e 5 = .ptr N5 0/\e 6 = .ptr N6 0/\e 20 = .int .i64 (n:Int)/\e 21 = .int .i64 (x:Int))
   ⟨(vs,s),rfl,ha,hV,A9,OH,fun _ _ _ _=>rfl,dK _,rfl,rfl,rfl,rfl,rfl,rfl,rfl,rfl,rfl⟩ ?_ ?_
  ·rintro x e h' _ hx ⟨acc,US,qa,qV,ql,qin,qf,qn,e0,e1,e2,e3,e4,e5,e6,Ia,Bh⟩ K' hn gi hr hp
   have jb:(List.range (x+1)).foldl (jg qQ n r v (gq qQ uS n r m (v+1))) (vs,s)=jg qQ n r v (gq qQ uS n r m (v+1)) acc x:=by
    rw [range_succ,foldl_append,<- US];rfl
   unfold jg at jb;have EZ:=hc.gz qf qn;have iJ:=zk (v:=(x:Int)) qV (i:=v) (by omega);have YV:v<k:=by omega
   rw [F.dJ.aT];simp only [e0,e3,e5,Ia,Bh,aR,reduceAdd,reduceEqDiff,reduceIte,aZ hx,aj EZ.h4,nK YV,iJ];have qn0:(h'.set V (.cells ((acc.1.set v (x:Int)).map iv))).next=h'.next:=Heap.bp _ _ _
   have qg:∀ b,b≠V->(h'.set V (.cells ((acc.1.set v (x:Int)).map iv))).get b=h'.get b:=fun b hb=>by rw [Heap.aP,if_neg hb]
   have qV2:(h'.set V (.cells ((acc.1.set v (x:Int)).map iv))).get V=some (.cells ((acc.1.set v (x:Int)).map iv)):=by rw [Heap.aP,if_pos rfl]
   generalize (h'.set V (.cells ((acc.1.set v (x:Int)).map iv)))=H at qn0 qg qV2 ⊢;have cH:=EZ.gz (h':=H) (fun b _ _ hb=>qg b hb) (by omega);have lV:=hc.lo.2.2.2.2.2.2;have aH:=d.gz _ _ H qa (by omega) (fun b _ hb=>qg b hb) (by omega);obtain ⟨sS,sD,sA⟩:=d.st _ _ aH;have Wc:(acc.1.set v (x:Int)).length=k:=by rw [length_set];exact ql
   have wK:=nC qin v hx;generalize (acc.1.set v (x:Int))=vs2 at jb qV2 Wc wK;have c4:=cH.h4;rw [<- Wc] at c4;simp only [aj cH.h5,aR,reduceAdd,reduceEqDiff,reduceIte,fL,nil_append,cons_append];refine ai (JX (n:=n) (B:=B) (lo:=lo) (S:=S) hf hcs L9 sS sD (by have:=d.sb;omega) cH.h0 cH.hi.1 cH.h1 cH.hi.2.1 c4 cH.hi.2.2.2.1 qV2 cH.hi.2.2.2.2.2.2 (by omega) wK d.n1 sA fun h3 x3=>?_);have c3:=cH.gz (fun b _ hb _=>x3.get b hb) x3.next
   have a3:=d.gz _ _ h3 aH (by omega) (fun b hb _=>x3.get b hb) x3.next
   have v3:h3.get V=some (.cells (vs2.map iv)):=by rw [x3.get V cH.hi.2.2.2.2.2.2];exact qV2
   have n3:=x3.next
   have f3:∀ b,base<=b->b<h.next->b≠V->h3.get b=h.get b:=fun b b1 b2 b3=>by rw [x3.get b (by omega),qg b b3,qf b b1 b2 b3]
   simp only [aR,reduceAdd,reduceEqDiff,reduceIte]
   cases nk:B4 n (dz (qQ acc.2)) r vs2 (v:Int) with
   |false=>
    rw [nk,if_neg (by simp)] at jb;simp only [aK,Bh,aI hx (show n<=cE by unfold cE;omega),an];exact hn _ _ ⟨_,jb.symm,a3,v3,Wc,wK,f3,by omega,e0,e1,e2,e3,e4,e5,e6,Ia,rfl⟩
   |true=>
    rw [nk,if_pos rfl] at jb;have KT:=aI (i:=v) (n:=13) (by omega) (by unfold cE;omega);simp only [aL,e0,e6,aj c3.h6,aR,reduceAdd,reduceEqDiff,reduceIte,KT,fL,nil_append,cons_append];refine ai (ih (v+1) (by omega) vs2 acc.2 h3 _ a3 (by omega) c3 v3 Wc wK fun h4 a4 v4 f4 n4=>?_);obtain ⟨w1,w2⟩:=JY (qQ:=qQ) (uS:=uS) (r:=r) (k:=k) m (v+1) vs2 acc.2 Wc wK;simp only [aR,reduceAdd,reduceEqDiff,reduceIte,Bool.not_true,aK,Bh,aI hx (show n<=cE by unfold cE;omega)];exact hn _ _ ⟨_,jb.symm,a4,v4,w1,w2,fun b b1 b2 b3=>by rw [f4 b b1 (by omega) b3,f3 b b1 b2 b3],by omega,e0,e1,e2,e3,e4,e5,e6,Ia,rfl⟩
  ·rintro e h' ⟨acc,US,qa,qV,ql,qin,qf,qn,e0,e1,e2,e3,e4,e5,e6,Ia,Bh⟩ K' gi;rw [F.dJ.aT];simp only [Ia,Bh,aR,reduceAdd,reduceEqDiff,reduceIte,aS];rw [gi,F.dJ.aF];have:gq qQ uS n r (m+1) v vs s=acc:=US.symm;rw [this] at hK;exact hK h' qa qV qf qn
def tc{σ:Type}(qQ:σ->b8->Option (Nat×List Bool))(uS:List Int->σ->σ)(n:Nat)(r:aN)(k:Nat)(s:σ):σ:=
 if B4 n (dz (qQ s)) r (replicate k 0) (-1)=true then (gq qQ uS n r k 0 (replicate k 0) s).2 else s
theorem vS(i:Int)(r:aN)(n:Int)(hd:Sl Int)(cs:Sl (Sl Int))(ls:Sl Int):bx (bI i r n (ak encI 1 hd) (ak cU 1 cs) (ak encI 1 ls))=true:=by
 unfold bI;simp only [bx,fR,Bool.and_true];rfl
theorem vT(h:1<=n)(k:Nat):iY n (replicate k (0:Int))=true:=by
 unfold iY;rw [List.all_eq_true];intro x hx;rw [(mem_replicate.1 hx).2];simp;omega
set_option maxHeartbeats 1000000 in
theorem JZ{Gy:Nat->σ->Heap->Prop}{qQ:σ->b8->Option (Nat×List Bool)}{uS:List Int->σ->σ}{lo:Nat}{r:aN}(d:∀ V,h.next<=V->Rs σ (Gy V) qQ uS S B n lo base k r g ga gb V)
  {hd:Sl Int} {cs:Sl (Sl Int)} {ls:Sl Int} (hf:r.lJ) (hk:k=(varsOf r).length) (Ii:k<=12) (hcs:cs.l.map Sl.l=r.body.l.map (fun c=>iZ (varsOf r) c.args.l)) (L9:ls.l=r.body.l.map (fun c=>iu (placesOf (varsOf r) c.args.l)))
  {s:σ} (ha:∀ V,h.next<=V->Gy V s h) (Li:base<=h.next)
  (hK:∀ h' V,h.next<=V->Gy V (tc qQ uS n r k s) h'->(∀ b,base<=b->b<h.next->h'.get b=h.get b)->h.next<=h'.next->K (.ret (.tuple [])) h'=true) :
  Sem TP 118 [.ptr S 0,.agg (bI i0 r k (ak encI 1 hd) (ak cU 1 cs) (ak encI 1 ls)),.func g ga gb] h K:=by
 refine F.uw ?_;rw [F.wE];simp only [mE (x:=.ptr S 0) rfl,dg (vS i0 r k hd cs ls),mE (x:=.func g ga gb) rfl,an,Heap.aJ]
 have g0:(((h.alloc (.cells [.ptr S 0])).alloc (.cells (bI i0 r k (ak encI 1 hd) (ak cU 1 cs) (ak encI 1 ls)))).alloc (.cells [.func g ga gb])).get h.next=some (.cells [.ptr S 0]):=by
  rw [Heap.aQ,Heap.aJ,Heap.aJ,if_neg (by omega),Heap.aQ,Heap.aJ,if_neg (by omega)];exact aA _ _
 have g1:(((h.alloc (.cells [.ptr S 0])).alloc (.cells (bI i0 r k (ak encI 1 hd) (ak cU 1 cs) (ak encI 1 ls)))).alloc (.cells [.func g ga gb])).get (h.next+1)=some (.cells (bI i0 r k (ak encI 1 hd) (ak cU 1 cs) (ak encI 1 ls))):=by
  rw [Heap.aQ,Heap.aJ,Heap.aJ,if_neg (by omega)];exact aA _ _
 have g2:(((h.alloc (.cells [.ptr S 0])).alloc (.cells (bI i0 r k (ak encI 1 hd) (ak cU 1 cs) (ak encI 1 ls)))).alloc (.cells [.func g ga gb])).get (h.next+1+1)=some (.cells [.func g ga gb]):=aA _ _;have gx:bu h (((h.alloc (.cells [.ptr S 0])).alloc (.cells (bI i0 r k (ak encI 1 hd) (ak cU 1 cs) (ak encI 1 ls)))).alloc (.cells [.func g ga gb])):=((bu.alloc _ _).trans (bu.alloc _ _)).trans (bu.alloc _ _);have gn:(((h.alloc (.cells [.ptr S 0])).alloc (.cells (bI i0 r k (ak encI 1 hd) (ak cU 1 cs) (ak encI 1 ls)))).alloc (.cells [.func g ga gb])).next=h.next+3:=rfl
 generalize (((h.alloc (.cells [.ptr S 0])).alloc (.cells (bI i0 r k (ak encI 1 hd) (ak cU 1 cs) (ak encI 1 ls)))).alloc (.cells [.func g ga gb]))=H3 at g0 g1 g2 gx gn ⊢;have g1':=g1;simp only [bI] at g1';simp only [aR,reduceAdd,reduceEqDiff,reduceIte,aj g1',Cr (show k<=1000000 by omega)];have v6:=aA H3 (.cells ((replicate k (0:Int)).map iv));have x6:=bu.alloc H3 (.cells ((replicate k (0:Int)).map iv));have n6:(H3.alloc (.cells ((replicate k (0:Int)).map iv))).next=H3.next+1:=Heap.aJ _ _
 generalize (H3.alloc (.cells ((replicate k (0:Int)).map iv)))=H6 at v6 x6 n6 ⊢;obtain ⟨h7,s7,a7,o7,n7⟩:=lI (h:=H6) (z:=.ax) (v:=.slice H3.next 0 k 1) rfl rfl;obtain ⟨h8,s8,a8,o8,n8⟩:=lI (h:=h7) (z:=.nO) (v:=.func 157 [] [.ptr (h.next+1) 0,.ptr h.next 0,.ptr H6.next 0]) rfl rfl;obtain ⟨h9,s9,a9,o9,n9⟩:=lI (h:=h8) (z:=.nO) (v:=.func 159 [] [.ptr (h.next+1) 0,.ptr (h.next+1+1) 0,.ptr H6.next 0,.ptr h.next 0,.ptr h7.next 0,.ptr h8.next 0]) rfl rfl;simp only [s7,s8,s9,an];have low:∀ b,b<H6.next->h9.get b=H6.get b:=fun b hb=>by rw [o9 b (by omega),o8 b (by omega),o7 b (by omega)]
 have c:Cells S n k h.next (h.next+1) (h.next+1+1) H6.next h7.next h8.next H3.next base i0 r hd cs ls g ga gb h9:=
  ⟨by rw [low _ (by omega),x6.get _ (by omega)];exact g0,by rw [low _ (by omega),x6.get _ (by omega)];exact g1,by rw [low _ (by omega),x6.get _ (by omega)];exact g2,
   by rw [o9 _ (by omega),o8 _ (by omega)];exact a7,by rw [o9 _ (by omega)];exact a8,a9,
   ⟨by omega,by omega,by omega,by omega,by omega,by omega,by omega⟩,⟨by omega,by omega,by omega,by omega,by omega,by omega,by omega⟩,⟨by omega,by omega,by omega,by omega,by omega,by omega⟩⟩
 have x9:bu h h9:=⟨by omega,fun b hb=>by rw [low b (by omega),x6.get b (by omega),gx.get b hb]⟩
 have v9:h9.get H3.next=some (.cells ((replicate k (0:Int)).map iv)):=by rw [low _ (by omega)];exact v6
 have hV3:h.next<=H3.next:=gx.next
 replace d:=d H3.next hV3
 replace ha:=ha H3.next hV3
 have a9':=d.gz _ _ h9 ha Li (fun b hb _=>x9.get b hb) x9.next
 have YS:(replicate k (0:Int)).length=k:=length_replicate;have XP:=vT d.n1 k;obtain ⟨sS,sD,sA⟩:=d.st _ _ a9';have c4:=c.h4;rw [<- YS] at c4;generalize OH:replicate k (0:Int)=YW at v9 YS XP c4;have heF:tc qQ uS n r k s=if B4 n (dz (qQ s)) r YW (-1)=true then (gq qQ uS n r k 0 YW s).2 else s:=by unfold tc;rw [OH]
 simp only [aR,reduceAdd,reduceEqDiff,reduceIte,aj c.h5,fL,nil_append,cons_append];refine ai (JX (n:=n) (B:=B) (lo:=lo) (S:=S) hf hcs L9 sS sD (by have:=d.sb;have:=x9.next;omega) c.h0 c.hi.1 c.h1 c.hi.2.1 c4 c.hi.2.2.2.1 v9 c.hi.2.2.2.2.2.2 (by omega) XP d.n1 sA fun V2 UT=>?_);have n10:=UT.next
 have c10:=c.gz (fun b _ hb _=>UT.get b hb) n10;have SK:=d.gz _ _ V2 a9' (by have:=x9.next;omega) (fun b hb _=>UT.get b hb) n10;have v10:V2.get H3.next=some (.cells (YW.map iv)):=by rw [UT.get _ c.hi.2.2.2.2.2.2];exact v9
 simp only [aR,reduceAdd,reduceEqDiff,reduceIte]
 cases nk:B4 n (dz (qQ s)) r YW (-1) with
 |false=>
  rw [nk,if_neg (by simp)] at heF;rw [heF] at hK;simp only [aK];exact hK V2 _ hV3 SK (fun b _ b2=>(x9.trans UT).get b b2) (x9.trans UT).next
 |true=>
  rw [nk,if_pos rfl] at heF;rw [heF] at hK;simp only [aL,aR,reduceAdd,reduceEqDiff,reduceIte,aj c10.h6,fL,nil_append,cons_append];refine ai (OU d hf hk Ii hcs L9 k 0 (by omega) YW s V2 _ SK (by have:=x9.next;omega) c10 v10 YS XP fun h11 Tx v11 f11 n11=>?_);simp only [aR,reduceAdd,reduceEqDiff,reduceIte];exact hK h11 _ hV3 Tx (fun b b1 b2=>by rw [f11 b b1 (by have:=x9.next;omega) (by omega),(x9.trans UT).get b b2]) (by have:=x9.next;omega)
theorem Ec{Gy:σ->Heap->Prop}{qQ:σ->b8->Option (Nat×List Bool)}{uS:List Int->σ->σ}{lo:Nat}{r:aN}(d:∀ V,base<=V->Rs σ Gy qQ uS S B n lo base k r g ga gb V)
  {hd:Sl Int} {cs:Sl (Sl Int)} {ls:Sl Int} (hf:r.lJ) (hk:k=(varsOf r).length) (Ii:k<=12) (hcs:cs.l.map Sl.l=r.body.l.map (fun c=>iZ (varsOf r) c.args.l)) (L9:ls.l=r.body.l.map (fun c=>iu (placesOf (varsOf r) c.args.l)))
  {s:σ} (ha:Gy s h) (Li:base<=h.next)
  (hK:∀ h',Gy (tc qQ uS n r k s) h'->(∀ b,base<=b->b<h.next->h'.get b=h.get b)->h.next<=h'.next->K (.ret (.tuple [])) h'=true) :
  Sem TP 118 [.ptr S 0,.agg (bI i0 r k (ak encI 1 hd) (ak cU 1 cs) (ak encI 1 ls)),.func g ga gb] h K:=
 JZ (Gy:=fun _=>Gy) (fun V hV=>d V (by omega)) hf hk Ii hcs L9 (fun _ _=>ha) Li fun h' _ _=>hK h'
abbrev DB:=b8->Option (Nat×List Bool)
def eM(D D0:DB):Prop:=∀ nm,(D nm).map (fun p=>(p.1,p.2.length))=(D0 nm).map (fun p=>(p.1,p.2.length))
theorem eM.get{D D0:DB}(h:eM D D0){p0:Nat×List Bool}(h0:D0 nm=some p0):∃ p,D nm=some p/\p.1=p0.1/\p.2.length=p0.2.length:=by
 have:=h nm;rw [h0] at this
 cases hd:D nm with
 |none=>rw [hd] at this;cases this
 |some p=>
  rw [hd] at this;simp only [map_some,Option.some.injEq,Prod.mk.injEq] at this;exact ⟨p,rfl,this.1,this.2⟩
theorem eM.back{D D0:DB}(h:eM D D0)(hp:D nm=some p):∃ p0,D0 nm=some p0/\p.1=p0.1/\p.2.length=p0.2.length:=by
 have:=h nm;rw [hp] at this
 cases hd:D0 nm with
 |none=>rw [hd] at this;cases this
 |some p0=>
  rw [hd] at this;simp only [map_some,Option.some.injEq,Prod.mk.injEq] at this;exact ⟨p0,rfl,this.1,this.2⟩
theorem eM.set{D D0:DB}(h:eM D D0)(hp:D nm=some p)(hd:d.length=p.2.length):eM (kz D nm p.1 d) D0:=fun j=>by
 rw [<- h j];unfold kz;by_cases e:j=nm
 ·rw [if_pos e,e,hp,map_some,map_some,hd]
 ·rw [if_neg e]
def tQ(n:Nat)(r:aN)(vs:List Int)(s:DB×Bool):DB×Bool:=
 match s.1 r.name with
 |none=>s
 |some p=>if p.2.getD (kS n (de vs (placesOf (varsOf r) r.args.l))) false=true then s else (kz s.1 r.name p.1 (p.2.set (kS n (de vs (placesOf (varsOf r) r.args.l))) true),true)
structure pT (S B n lo base P3 P5 P6 PL:Nat) (D0:DB) (r:aN) (i0:Int) (k:Nat) (hd:Sl Int) (cs:Sl (Sl Int)) (ls:Sl Int) (ng:FuncId) (na nb:List AV) (h0:Heap) (s:DB×Bool) (h:Heap):Prop where
 hS:h.get S=some (.cells [.int .i64 (n:Int),.map B])
 hD:dB s.1 h B lo
 OV:eM s.1 D0
 h3:h.get P3=some (.cells [.ptr S 0])
 h5:h.get P5=some (.cells [.func ng na nb])
 h6:h.get P6=some (.cells [.bool s.2])
 hL:h.get PL=some (.cells (bI i0 r k (ak encI 1 hd) (ak cU 1 cs) (ak encI 1 ls)))
 lt:base<=h.next
 gJ:∀ b,b<base->b≠P6->(∀ nm p,D0 nm=some p->b≠p.1)->h.get b=h0.get b
structure ND (S B n lo base P3 P5 P6 PL:Nat) (D0:DB) (r:aN) (k:Nat) (hd:Sl Int) (ng:FuncId) (na nb:List AV):Prop where
 n1:1<=n
 sI:n<=64
 low:S<base/\B<base/\P3<base/\P5<base/\P6<base/\PL<base
 rows:∀ nm p,D0 nm=some p->p.1<base/\p.1≠S/\p.1≠P3/\p.1≠P5/\p.1≠P6/\p.1≠PL
 six:P6≠S/\P6≠B/\P6≠P3/\P6≠P5/\P6≠PL
 ask:∀ D,eM D D0->zq n D r
 head:n ^ r.args.l.length<=4096/\r.args.l.length<=12/\∃ p,D0 r.name=some p/\p.2.length=n ^ r.args.l.length
 hkk:k=(varsOf r).length
 hhd:hd.l=iZ (varsOf r) r.args.l
 note:∀ (i:Int) (r:aN) (k:Int) (hd:Sl Int) (cs:Sl (Sl Int)) (ls:Sl Int) (y:AV) (h:Heap) (K:Out->Heap->Bool),(∀ h',bu h h'->K (.ret (.tuple [])) h'=true)->Sem TP ng (na++([.agg (bI i r k (ak encI 1 hd) (ak cU 1 cs) (ak encI 1 ls)),y]++nb)) h K
theorem pT.gz{lo:Nat}{D0:DB}{r:aN}{hd:Sl Int}{cs:Sl (Sl Int)}{ls:Sl Int}{h0:Heap}(o:ND S B n lo base P3 P5 P6 PL D0 r k hd ng na nb){s:DB×Bool}
  (a:pT S B n lo base P3 P5 P6 PL D0 r i0 k hd cs ls ng na nb h0 s h) (hb:∀ b,b<base->h'.get b=h.get b) (hn:h.next<=h'.next):pT S B n lo base P3 P5 P6 PL D0 r i0 k hd cs ls ng na nb h0 s h':=by
 obtain ⟨l1,l2,l3,l4,l5,l6⟩:=o.low;refine ⟨by rw [hb _ l1];exact a.hS,?_,a.OV,by rw [hb _ l3];exact a.h3,by rw [hb _ l4];exact a.h5,by rw [hb _ l5];exact a.h6,by rw [hb _ l6];exact a.hL,Nat.le_trans a.lt hn,fun b b1 b2 b3=>by rw [hb b b1];exact a.gJ b b1 b2 b3⟩;obtain ⟨es,ck,m,e1,e2,e3⟩:=a.hD.ex;refine ⟨⟨es,ck,m,by rw [hb _ l2];exact e1,e2,e3⟩,fun nm p hp=>?_,a.hD.inj,Nat.lt_of_lt_of_le a.hD.lt hn⟩;obtain ⟨q1,q2,q3,q4⟩:=a.hD.Df nm p hp;obtain ⟨p0,r1,r2,_⟩:=a.OV.back hp;have:=(o.rows nm p0 r1).1;exact ⟨q1,Nat.lt_of_lt_of_le q2 hn,q3,by rw [hb _ (by omega)];exact q4⟩
set_option maxHeartbeats 1000000 in
theorem Rt{lo:Nat}{D0:DB}{r:aN}{hd:Sl Int}{cs:Sl (Sl Int)}{ls:Sl Int}{h0:Heap}(o:ND S B n lo base P3 P5 P6 PL D0 r k hd ng na nb){s:DB×Bool}
  (a:pT S B n lo base P3 P5 P6 PL D0 r i0 k hd cs ls ng na nb h0 s h) (hVb:base<=V) (UR:V<h.next) (hV:h.get V=some (.cells (vs.map iv))) (A9:vs.length=k) (OH:iY n vs=true)
  (hK:∀ h',pT S B n lo base P3 P5 P6 PL D0 r i0 k hd cs ls ng na nb h0 (tQ n r vs s) h'->(∀ b,base<=b->b<h.next->h'.get b=h.get b)->h.next<=h'.next->K (.ret (.bool true)) h'=true) :
  Sem TP 146 ([]++([.slice V 0 vs.length 1]++[.ptr PL 0,.ptr P3 0,.ptr P6 0,.ptr P5 0])) h K:=by
 obtain ⟨l1,l2,l3,l4,l5,l6⟩:=o.low;obtain ⟨FG,H7,p0,Bx,ack⟩:=o.head;have hL:=a.hL;simp only [bI] at hL;simp only [nil_append,cons_append];refine F.rC ?_;rw [F.sw];simp only [aR,reduceAdd,reduceEqDiff,reduceIte,aj hL];have qJ:∀ p ∈ placesOf (varsOf r) r.args.l,p<vs.length:=by rw [A9,o.hkk];exact mc oR
 have nZ:(placesOf (varsOf r) r.args.l).length=r.args.l.length:=by unfold placesOf;simp
 refine ai (Ig (ps:=placesOf (varsOf r) r.args.l) hV UR rfl o.hhd qJ (by rw [nZ];omega) fun h3 t1 x3 t2=>?_);have lt0:=a.lt;have a3:=pT.gz o a (fun b hb=>x3.get b (by omega)) x3.next
 obtain ⟨p,hp,YU,afk⟩:=a3.OV.get Bx;have hL3:=a3.hL;simp only [bI] at hL3;have ta:=lK vs (placesOf (varsOf r) r.args.l);have hin:=oS OH qJ;rw [<- ta];have SI:tQ n r vs s=if p.2.getD (kS n (de vs (placesOf (varsOf r) r.args.l))) false=true then s else (kz s.1 r.name p.1 (p.2.set (kS n (de vs (placesOf (varsOf r) r.args.l))) true),true):=by unfold tQ;rw [hp]
 have Ct:kS n (de vs (placesOf (varsOf r) r.args.l))<p.2.length:=by
  have:=qO hin;rw [ta,nZ] at this;omega
 have pR:p.2[kS n (de vs (placesOf (varsOf r) r.args.l))]?=some (p.2.getD (kS n (de vs (placesOf (varsOf r) r.args.l))) false):=by rw [getD_eq_getElem?_getD,ez Ct];rfl
 obtain ⟨b1,b2,b3,b4⟩:=a3.hD.Df r.name p hp;have Ru:∀ {K:Out->Heap->Bool},K (.ret (.int .i64 ((kS n (de vs (placesOf (varsOf r) r.args.l)):Nat):Int))) h3=true->Sem TP 101 [.ptr S 0,.slice h.next 0 (de vs (placesOf (varsOf r) r.args.l)).length 1] h3 K:=fun hk=>Bi a3.hS o.n1 t1 (by rw [ta,nZ];exact H7) (by rw [ta,nZ];exact FG) hin hk;generalize kS n (de vs (placesOf (varsOf r) r.args.l))=rk at SI Ct pR Ru;simp only [aR,reduceAdd,reduceEqDiff,reduceIte,aj a3.h3,cp,aj a3.hS,aj hL3,a3.hD.look hp];refine ai (Ru ?_);simp only [aR,reduceAdd,reduceEqDiff,reduceIte,nK Ct,Ic b4 pR]
 cases YQ:p.2.getD rk false with
 |true=>
  rw [YQ,if_pos rfl] at SI;simp only [Bool.not_true,aK];rw [SI] at hK;exact hK h3 a3 (fun b _ b2=>x3.get b b2) x3.next
 |false=>
  rw [YQ,if_neg (by simp)] at SI;simp only [Bool.not_false,aL,aj a3.h3,aR,reduceAdd,reduceEqDiff,reduceIte];refine ai (Ru ?_);obtain ⟨w1,w2,w3,w4,w5,w6⟩:=o.rows r.name p0 Bx;rw [<- YU] at w1 w2 w3 w4 w5 w6;obtain ⟨y1,y2,y3,y4,y5⟩:=o.six;have kK:=a3.hD.set hp (d:=p.2.set rk true) (by simp);have st1:=D8 (v:=true) b4 Ct;have g6:(h3.set p.1 (.cells ((p.2.set rk true).map bv))).get P6=some (.cells [.bool s.2]):=by rw [Heap.aP,if_neg (Ne.symm w5)];exact a3.h6
  have XN:bf 1 (.ptr P6 0) (.bool true) (h3.set p.1 (.cells ((p.2.set rk true).map bv)))=some ((h3.set p.1 (.cells ((p.2.set rk true).map bv))).set P6 (.cells [.bool true])):=by
   rw [cK (n:=1) g6 rfl rfl (by simp)];rfl
  have q:∀ b,b≠p.1->b≠P6->((h3.set p.1 (.cells ((p.2.set rk true).map bv))).set P6 (.cells [.bool true])).get b=h3.get b:=fun b hb1 hb2=>by rw [Heap.aP,if_neg hb2,Heap.aP,if_neg hb1]
  have q6:((h3.set p.1 (.cells ((p.2.set rk true).map bv))).set P6 (.cells [.bool true])).get P6=some (.cells [.bool true]):=by rw [Heap.aP,if_pos rfl]
  have qn:((h3.set p.1 (.cells ((p.2.set rk true).map bv))).set P6 (.cells [.bool true])).next=h3.next:=by rw [Heap.bp,Heap.bp]
  have hD':dB (kz s.1 r.name p.1 (p.2.set rk true)) ((h3.set p.1 (.cells ((p.2.set rk true).map bv))).set P6 (.cells [.bool true])) B lo:=by
   obtain ⟨es,ck,m,e1,e2,e3⟩:=kK.ex;refine ⟨⟨es,ck,m,by rw [Heap.aP,if_neg (Ne.symm y2)];exact e1,e2,e3⟩,fun nm p' zP=>?_,kK.inj,by rw [Heap.bp];exact kK.lt⟩;obtain ⟨c1,c2,c3,c4⟩:=kK.Df nm p' zP;obtain ⟨p0',d1,d2,_⟩:=(a3.OV.set hp (d:=p.2.set rk true) (by simp)).back zP;have:=(o.rows nm p0' d1).2.2.2.2.1;exact ⟨c1,by rw [Heap.bp];exact c2,c3,by rw [Heap.aP,if_neg (by rw [d2];exact this)];exact c4⟩
  simp only [aR,reduceAdd,reduceEqDiff,reduceIte,nK Ct,st1,XN];generalize ((h3.set p.1 (.cells ((p.2.set rk true).map bv))).set P6 (.cells [.bool true]))=H at q q6 qn hD' ⊢
  have aH:pT S B n lo base P3 P5 P6 PL D0 r i0 k hd cs ls ng na nb h0 (tQ n r vs s) H:=by
   rw [SI];exact ⟨by rw [q S (Ne.symm w2) (Ne.symm y1)];exact a3.hS,hD',a3.OV.set hp (by simp),by rw [q P3 (Ne.symm w3) (Ne.symm y3)];exact a3.h3,by rw [q P5 (Ne.symm w4) (Ne.symm y4)];exact a3.h5,q6,by rw [q PL (Ne.symm w6) (Ne.symm y5)];exact a3.hL,by rw [qn];exact a3.lt,fun b b1 b2 b3=>by rw [q b (by rw [YU];exact b3 _ _ Bx) b2];exact a3.gJ b b1 b2 b3⟩
  have hLH:=aH.hL;simp only [bI] at hLH;simp only [aj aH.h5,aj hLH,NB,aR,reduceAdd,reduceEqDiff,reduceIte,fL];refine ai (o.note i0 r k hd cs ls _ H _ fun h9 x9=>?_);simp only [aR,reduceAdd,reduceEqDiff,reduceIte];have ltH:=aH.lt;have n9:=x9.next
  exact hK h9 (pT.gz o aH (fun b hb=>x9.get b (by omega)) n9) (fun b b1 b2=>by have:=x3.next;rw [x9.get b (by omega),q b (by omega) (by omega),x3.get b b2]) (by have:=x3.next;omega)
theorem Ma{lo:Nat}{D0:DB}{r:aN}{hd:Sl Int}{cs:Sl (Sl Int)}{ls:Sl Int}{h0:Heap}(o:ND S B n lo base P3 P5 P6 PL D0 r k hd ng na nb)(V0:Nat)(hV0:base<=V0) :
  Rs (DB×Bool) (pT S B n lo base P3 P5 P6 PL D0 r i0 k hd cs ls ng na nb h0) (fun s=>s.1) (tQ n r) S B n lo base k r 146 [] [.ptr PL 0,.ptr P3 0,.ptr P6 0,.ptr P5 0] V0:=
 ⟨o.n1,o.sI,o.low.1,fun s h a=>⟨a.hS,a.hD,o.ask _ a.OV⟩,fun s h h' a Li hb hn=>pT.gz o a (fun b fq=>hb b (by omega) (by omega)) hn,fun s h vs K a h1 h2 h3 h4 h5 hK=>Rt o a h1 h2 h3 h4 h5 hK⟩
theorem Ed{σ:Type}{qQ:σ->DB}{uS:List Int->σ->σ}{n:Nat}{r:aN}{k:Nat}{Q:σ->Prop}(hQ:∀ vs s,vs.length=k->iY n vs=true->Q s->Q (uS vs s)):∀ (m v:Nat) (vs:List Int) (s:σ),vs.length=k->iY n vs=true->Q s ->
  ((gq qQ uS n r m v vs s).1.length=k/\iY n (gq qQ uS n r m v vs s).1=true)/\Q (gq qQ uS n r m v vs s).2
 |0,v,vs,s,h1,h2,h3=>⟨⟨h1,h2⟩,hQ vs s h1 h2 h3⟩
 |m+1,v,vs,s,h1,h2,h3=>by
  refine jH (P:=fun (a:List Int×σ)=>(a.1.length=k/\iY n a.1=true)/\Q a.2) ⟨⟨h1,h2⟩,h3⟩ fun a x hx ha=>?_;have OT:=mem_range.1 hx;have h3:(a.1.set v (x:Int)).length=k:=by rw [length_set];exact ha.1.1
  have h4:=nC ha.1.2 v OT;unfold jg;split
  ·exact Ed hQ m (v+1) _ _ h3 h4 ha.2
  ·exact ⟨⟨h3,h4⟩,ha.2⟩
theorem sJ{qQ:σ->DB}{uS:List Int->σ->σ}{r:aN}{Q:σ->Prop}(n1:1<=n)(hQ:∀ vs s,vs.length=k->iY n vs=true->Q s->Q (uS vs s)){s:σ}(hs:Q s):Q (tc qQ uS n r k s):=by
 unfold tc;split
 ·exact (Ed hQ k 0 _ _ length_replicate (vT n1 k) hs).2
 ·exact hs
structure zu where
 i:Int
 r:aN
 hd:Sl Int
 cs:Sl (Sl Int)
 ls:Sl Int
def uT(p:zu):List AV:=bI p.i p.r (varsOf p.r).length (ak encI 1 p.hd) (ak cU 1 p.cs) (ak encI 1 p.ls)
theorem Gz(p:zu):(uT p).length=8:=rfl
theorem GA(p:zu):bx (uT p)=true:=vS _ _ _ _ _ _
structure zu.ok (p:zu):Prop where
 lJ:p.r.lJ
 Ih:(varsOf p.r).length<=12
 hd:p.hd.l=iZ (varsOf p.r) p.r.args.l
 cs:p.cs.l.map Sl.l=p.r.body.l.map (fun c=>iZ (varsOf p.r) c.args.l)
 ls:p.ls.l=p.r.body.l.map (fun c=>iu (placesOf (varsOf p.r) c.args.l))
def kO(n:Nat)(r:aN)(s:DB×Bool):DB×Bool:=tc (fun s=>s.1) (tQ n r) n r (varsOf r).length s
def mN(n:Nat)(rs:List aN)(s:DB×Bool):DB×Bool:=rs.foldl (fun s r=>kO n r s) s
theorem Mb{rs:List aN}{i:Nat}{r:aN}(hr:rs[i]?=some r)(s:DB×Bool):mN n (rs.take (i+1)) s=kO n r (mN n (rs.take i) s):=by
 unfold mN;rw [take_add_one,hr];simp
inductive Reach (n:Nat) (rs:List aN) (D0:DB):DB->Prop
 |refl:Reach n rs D0 D0
 |step (D:DB):Reach n rs D0 D->Reach n rs D0 (mN n rs (D,false)).1
theorem Ij:∀ (l:List Bool) (i:Nat),l[i]?=some false->(l.set i true).count false<l.count false
 |[],i,h=>by simp at h
 |b :: l,0,h=>by
  simp only [getElem?_cons_zero,Option.some.injEq] at h;subst h;simp
 |b :: l,i+1,h=>by
  rw [getElem?_cons_succ] at h;have:=Ij l i h;rw [set_cons_succ,count_cons,count_cons];omega
def XQ(D:DB)(nm:b8):Nat:=match D nm with|none=>0|some p=>p.2.count false
def Ee(names:List b8)(D:DB):Nat:=(names.map (XQ D)).sum
structure J1 (names:List b8) (D0 D:DB) (s:DB×Bool):Prop where
 OV:eM s.1 D0
 le:Ee names s.1<=Ee names D
 lt:s.2=true->Ee names s.1<Ee names D
 same:s.2=false->s.1=D
theorem Rv{names:List b8}{D0 D:DB}{r:aN}(hin:r.name ∈ names)(hk:k=(varsOf r).length)(hh:∃ p,D0 r.name=some p/\p.2.length=n ^ r.args.l.length){s:DB×Bool}(A9:vs.length=k)(OH:iY n vs=true)(q:J1 names D0 D s):J1 names D0 D (tQ n r vs s):=by
 obtain ⟨p0,Bx,YS⟩:=hh;obtain ⟨p,hp,_,hl⟩:=q.OV.get Bx;have qJ:∀ p ∈ placesOf (varsOf r) r.args.l,p<vs.length:=by rw [A9,hk];exact mc oR
 have nZ:(placesOf (varsOf r) r.args.l).length=r.args.l.length:=by unfold placesOf;simp
 have Ct:kS n (de vs (placesOf (varsOf r) r.args.l))<p.2.length:=by
  have:=qO (oS OH qJ);rw [lK,nZ] at this;omega
 have SI:tQ n r vs s=if p.2.getD (kS n (de vs (placesOf (varsOf r) r.args.l))) false=true then s else (kz s.1 r.name p.1 (p.2.set (kS n (de vs (placesOf (varsOf r) r.args.l))) true),true):=by unfold tQ;rw [hp]
 rw [SI];generalize kS n (de vs (placesOf (varsOf r) r.args.l))=rk at Ct ⊢;split
 ·exact q
 ·rename_i hb
  have pR:p.2[rk]?=some false:=by
   rw [getD_eq_getElem?_getD,ez Ct] at hb;rw [ez Ct];simp only [getD_some,not_eq_true] at hb;rw [hb]
  have hlt:Ee names (kz s.1 r.name p.1 (p.2.set rk true))<Ee names s.1:=by
   refine eA.K4 (fun nm=>?_) (t:=r.name) ?_ hin
   ·unfold XQ kz;by_cases e:nm=r.name
    ·subst e;rw [if_pos rfl,hp];exact Nat.le_of_lt (Ij _ _ pR)
    ·rw [if_neg e];exact dK _
   ·unfold XQ kz;rw [if_pos rfl,hp];exact Ij _ _ pR
  have:=q.le;exact ⟨q.OV.set hp (by simp),by show Ee names (kz s.1 r.name p.1 (p.2.set rk true))<=_;omega,fun _=>by show Ee names (kz s.1 r.name p.1 (p.2.set rk true))<_;omega,fun h=>by cases h⟩
theorem J2{names:List b8}{D0 D:DB}{r:aN}(n1:1<=n)(hin:r.name ∈ names)(hh:∃ p,D0 r.name=some p/\p.2.length=n ^ r.args.l.length){s:DB×Bool}(q:J1 names D0 D s):J1 names D0 D (kO n r s):=
 sJ n1 (fun vs s h1 h2 h3=>Rv hin rfl hh h1 h2 h3) q
theorem Bk(nm:b8)(xs:List b8):mV nm xs=(ey nm&&mM xs):=by
 unfold mV mM;rw [Bool.and_comm (xs.all ey)]
def jq(r:aN):Bool:=ey r.name&&(mM r.args.l&&(decide (r.body.l.length<=20)&&(r.body.l.all gX&&decide ((varsOf r).length<=12))))
theorem cS{r:aN}(l9:r.ok)(hf:r.lJ){h:Heap}{K:Out->Heap->Bool}(hK:K (.ret (.bool (jq r))) h=true) :
  Sem TP 112 [.agg [.str r.name,ak encS 1 r.args,ak bP 4 r.body]] h K:=by
 refine Sem.data (r:=.bool (jq r)) ?_ (by have:=fN r;simpa [aO,AV.cN,AV.pure] using this) hK;clear hK;have Bj:r.body.l.length<=cE:=l9.2.2.2.1;refine F.Dv ?_;rw [F.Fi];have g0:(Heap.alloc Heap.empty (.cells (aO r))).get 0=some (.cells (aO r)):=aA _ _;have gn:(Heap.alloc Heap.empty (.cells (aO r))).next=1:=rfl
 have hb:eW (.agg [.str r.name,ak encS 1 r.args,ak bP 4 r.body])=some (aO r):=dg (jG r);simp only [hb,an,bJ];generalize (Heap.alloc Heap.empty (.cells (aO r)))=H at g0 gn ⊢;have fin:∀ (b:Bool) h',b=jq r->qN (.bool (jq r)) (.ret (.bool b)) h'=true:=fun b h' hb=>by rw [hb];exact gd rfl
 generalize qN (.bool (jq r))=R at fin ⊢;simp only [aR,reduceAdd,reduceEqDiff,reduceIte,aj g0,aO];refine ai (eB ?_);simp only [aR,reduceAdd,reduceEqDiff,reduceIte]
 cases hn:ey r.name with
 |false=>simp only [Bool.not_false,aL];exact fin _ _ (by simp [jq,hn])
 |true=>
 simp only [Bool.not_true,aK,aR,reduceAdd,reduceEqDiff,reduceIte,aj g0,aO];refine ai (ee l9.2.1 ?_);simp only [aR,reduceAdd,reduceEqDiff,reduceIte]
 cases Rw:mM r.args.l with
 |false=>simp only [Bool.not_false,aL];exact fin _ _ (by simp [jq,Rw])
 |true=>
 simp only [Bool.not_true,aK,aR,reduceAdd,reduceEqDiff,reduceIte,aj g0,aO];by_cases vK:20<r.body.l.length
 ·simp only [fh (by omega:(20:Int)<(r.body.l.length:Int)),aL];exact fin _ _ (by simp [jq,show ¬ r.body.l.length<=20 by omega])
 simp only [eT (by omega:¬ (20:Int)<(r.body.l.length:Int)),aK];have afl:r.body.l.length<=20:=by omega
 refine aD 0 r.body.l.length (zero_le _) (fun i e h'=>bu H h'/\e 1 = .ptr 0 0/\e 3 = .int .i64 (i:Int)/\(r.body.l.take i).all gX=true) ⟨bu.refl _,rfl,rfl,rfl⟩ ?_ ?_
 ·rintro i e h' _ hi ⟨x1,e1,e3,ht⟩ K' qR hx hr hp;have hv:r.body.l[i]?=some r.body.l[i]:=ez hi;generalize r.body.l[i]=c at hv;have J3:=l9.2.2.2.2 c (iz hv);have q0:h'.get 0=some (.cells (aO r)):=by rw [x1.get 0 (by omega)];exact g0
  obtain ⟨H2,qW,k1,ko,kn⟩:=cx (h:=h') (zs:=[.int .i64 0,.bool false,.str [],.ax]) (cs:=bP c) (n:=4) rfl rfl (iI c);have x2:bu H H2:=x1.trans ⟨by omega,fun b hb=>ko b (by omega)⟩;have no:gX c=false->∀ h',R (.ret (.bool false)) h'=true:=fun hc h'=>fin _ _ (by simp [jq,all_false hv hc]);rw [F.cS.aT];simp only [e1,e3,aR,reduceAdd,reduceEqDiff,reduceIte,aj q0,aO,aZ hi,aV r.body hi,dO iH hv,qW];simp only [aR,reduceAdd,reduceEqDiff,reduceIte,aj k1,bP,cI];by_cases k0:c.kind=0
  ·have Ws:gX c=(ey c.name&&mM c.args.l):=by unfold gX;rw [if_pos k0,Bk]
   simp only [fh k0,aL,aR,reduceAdd,reduceEqDiff,reduceIte,aj k1,bP];refine ai (eB ?_);simp only [aR,reduceAdd,reduceEqDiff,reduceIte]
   cases n1:ey c.name with
   |false=>
    simp only [Bool.not_false,aL];rw [hr,F.cS.bz];exact no (by rw [Ws,n1];rfl) _
   |true=>
   simp only [Bool.not_true,aK,aR,reduceAdd,reduceEqDiff,reduceIte,aj k1,bP];refine ai (ee J3.2.1 ?_);simp only [aR,reduceAdd,reduceEqDiff,reduceIte]
   cases n2:mM c.args.l with
   |false=>
    simp only [Bool.not_false,aL];rw [hr,F.cS.bz];exact no (by rw [Ws,n2,Bool.and_false]) _
   |true=>
   simp only [Bool.not_true,aK,aI hi Bj,an];exact qR _ _ ⟨x2,e1,rfl,jB hv ht (by rw [Ws,n1,n2];rfl)⟩
  simp only [eT k0,aK]
  have J:∀ (e:Env) (b:Bool),e 1 = .ptr 0 0->e 3 = .int .i64 (i:Int)->e 4 = .ptr h'.next 0->e 44 = .bool b->(b=true↔(c.kind=1\/c.kind=2))->F.cS.J0 K' ⟨e,67,[],H2⟩=true:=by
   intro e b e1 e3 e4 e44 hb;rw [F.cS.Du];simp only [e4,e44,aR,reduceAdd,reduceEqDiff,reduceIte]
   cases b with
   |false=>
    simp only [aK];have:¬ (c.kind=1\/c.kind=2):=fun h=>by have:=hb.2 h;cases this
    rw [hr,F.cS.bz];exact no (by unfold gX;rw [if_neg k0,if_neg this]) _
   |true=>
    have hk:=hb.1 rfl;have PK:gX c=(decide (c.name = [])&&(decide (c.args.l.length=2)&&c.args.l.all ey)):=by simp only [gX,if_neg k0,if_pos hk]
    simp only [aL,aR,reduceAdd,reduceEqDiff,reduceIte,aj k1,bP,sE];by_cases hn:c.name = []
    ·simp only [fh hn,Bool.not_true,aK,aR,reduceAdd,reduceEqDiff,reduceIte,aj k1,bP,cI];by_cases h2:c.args.l.length=2
     ·simp only [fh (by omega:(c.args.l.length:Int)=2),Bool.not_true,aK,aR,reduceAdd,reduceEqDiff,reduceIte,aj k1,bP];refine ai (ee J3.2.1 ?_);simp only [aR,reduceAdd,reduceEqDiff,reduceIte];have pU:mM c.args.l=c.args.l.all ey:=by unfold mM;rw [fh (by omega:c.args.l.length<=12),Bool.and_true]
      rw [pU]
      cases n2:c.args.l.all ey with
      |false=>
       simp only [Bool.not_false,aL];rw [hr,F.cS.bz];exact no (by rw [PK,n2,Bool.and_false,Bool.and_false]) _
      |true=>
       simp only [Bool.not_true,aK,e3,aI hi Bj,an];exact qR _ _ ⟨x2,e1,rfl,jB hv ht (by rw [PK,n2];simp [hn,h2])⟩
     ·simp only [eT (by omega:¬ (c.args.l.length:Int)=2),Bool.not_false,aL];rw [hr,F.cS.bz];exact no (by rw [PK];simp [h2]) _
    ·simp only [eT hn,Bool.not_false,aL];rw [hr,F.cS.bz];exact no (by rw [PK];simp [hn]) _
  by_cases k1':c.kind=1
  ·simp only [fh k1',aL];exact J _ true e1 e3 rfl rfl (by simp [k1'])
  ·simp only [eT k1',aK];exact J _ (decide (c.kind=2)) e1 e3 rfl rfl (by simp [k1'])
 ·rintro e h' ⟨x1,e1,e3,ht⟩ K' hx;have q0:h'.get 0=some (.cells (aO r)):=by rw [x1.get 0 (by omega)];exact g0
  rw [F.cS.aT];simp only [e1,e3,aR,reduceAdd,reduceEqDiff,reduceIte,aj q0,aO,aS];rw [hx,F.cS.aF];simp only [e1,aR,reduceAdd,reduceEqDiff,reduceIte,aj q0,aO,sG];refine ai (bQ hf fun x jO=>?_);simp only [aR,reduceAdd,reduceEqDiff,reduceIte,jO];rw [jD (dK _)] at ht;refine fin _ _ ?_;unfold jq;rw [hn,Rw,fh afl,ht];by_cases H7:(varsOf r).length<=12
  ·rw [fh H7,fh (by omega:((varsOf r).length:Int)<=12)];rfl
  ·rw [eT H7,eT (by omega:¬ ((varsOf r).length:Int)<=12)];rfl
def eo(cs:List eV):List (b8×Int):=(cs.filter fun c=>decide (c.kind=0)).map fun c=>(c.name,(c.args.l.length:Int))
def uU(r:aN):List (b8×Int):=(r.name,(r.args.l.length:Int)) :: eo r.body.l
def cD(rs:List aN):List (b8×Int):=rs.flatMap uU
theorem Ef{cs:List eV}{c:eV}(hc:cs[j]?=some c):eo (cs.take (j+1))=eo (cs.take j)++if c.kind=0 then [(c.name,(c.args.l.length:Int))] else []:=by
 unfold eo;rw [take_add_one,hc,toList_some,filter_append,map_append];by_cases h:c.kind=0<;>simp [h]
theorem qS(cs:List eV):(eo cs).length<=cs.length:=by
 unfold eo;rw [length_map];exact length_filter_le _ _
theorem uV:∀ rs:List aN,(∀ r ∈ rs,r.body.l.length<=20)->(cD rs).length<=rs.length*21
 |[],_=>dK _
 |r :: rs,h=>by
  have h1:=uV rs fun q hq=>h q (mem_cons_of_mem _ hq);have h2:=qS r.body.l;have h3:=h r mem_cons_self;show (uU r++cD rs).length<=_;unfold uU;rw [length_append,length_cons,length_cons];omega
theorem cP{rules:Sl aN}(tP:rules.l.length<=60)(vK:∀ r ∈ rules.l,r.body.l.length<=20){h:Heap}{K:Out->Heap->Bool}(hK:∀ x:Sl (b8×Int),x.l=cD rules.l->K (.ret (ak nR 2 x)) h=true) :
  Sem TP 113 [ak aO 3 rules] h K:=by
 have hbig:rules.l.length<=cE:=by unfold cE;omega
 have hmx:cG=140737488355328:=rfl
 have main:Sem TP 113 [ak aO 3 rules] Heap.empty (fun o h'=>yes (∃ v,∃ x:Sl (b8×Int),o = .ret v/\x.l=cD rules.l/\Fz true h' v (ak nR 2 x))):=by
  refine F.BF ?_;rw [F.Dq];refine aD 0 rules.l.length (zero_le _) (fun i e h'=>∃ a,Own nR 2 0 h' a (cD (rules.l.take i))/\e 0=ak aO 3 rules/\e 3=a/\e 4 = .int .i64 (i:Int)) ⟨.ax,.nil,rfl,rfl,rfl⟩ ?_ ?_
  ·rintro i e h' _ hi ⟨a,o,e0,e3,e4⟩ K' hn hx hr hp;have hv:rules.l[i]?=some rules.l[i]:=ez hi;generalize rules.l[i]=r at hv;have ab4:=vK r (iz hv);have Bj:r.body.l.length<=cE:=by unfold cE;omega
   have ld:∀ j,j<3->∀ h,ag none (.ef (rules.l.flatMap aO) (i*3+j)) h=(aO r)[j]?:=fun j hj h=>fy gu hv hj;have ld0:∀ h,ag none (.ef (rules.l.flatMap aO) (i*3)) h=some (.str r.name):=fun h=>ld 0 (by omega) h
   have hal:(cD (rules.l.take i)).length<=1260:=by
    have h1:=uV (rules.l.take i) fun q hq=>vK q (mem_of_mem_take hq);have h2:=length_take_le i rules.l;omega
   obtain ⟨a1,h1,p1,p2,p3,p4,p5,p6⟩:=o.push pM (fun x=>rfl) (zero_le _) (bytes:=24) (by omega) (r.name,(r.args.l.length:Int));rw [F.cP.aT];simp only [e0,e3,e4,aR,reduceAdd,reduceEqDiff,reduceIte,aZ hi,aV rules hi,ld0,ld 1 (by omega),aO,QY,QZ,p1]
   refine aD 0 r.body.l.length (zero_le _) (fun j e h2=>∃ a,Own nR 2 0 h2 a (cD (rules.l.take i)++(r.name,(r.args.l.length:Int)) :: eo (r.body.l.take j))/\e 0=ak aO 3 rules/\e 3=a/\e 4 = .int .i64 (i:Int)/\e 5 = .int .i64 (j:Int))
    ⟨a1,by simpa [eo] using p2,e0,rfl,e4,rfl⟩ ?_ ?_
   ·rintro j e h2 _ hj ⟨a,o,e0,e3,e4,e5⟩ K2 qj fo qL DY;have hc:r.body.l[j]?=some r.body.l[j]:=ez hj;generalize r.body.l[j]=c at hc;obtain ⟨H2,qW,k1,ko,kn⟩:=cx (h:=h2) (zs:=[.int .i64 0,.bool false,.str [],.ax]) (cs:=bP c) (n:=4) rfl rfl (iI c);have x2:bu h2 H2:=⟨by omega,fun b hb=>ko b (by omega)⟩
    have iJ:=Ef hc;rw [F.cP.dm];simp only [e0,e3,e4,e5,aR,reduceAdd,reduceEqDiff,reduceIte,aV rules hi,ld 2 (by omega),aO,aZ hj,aV r.body hj,dO iH hc,qW];simp only [aR,reduceAdd,reduceEqDiff,reduceIte,aj k1,bP,cI];by_cases k0:c.kind=0
    ·rw [if_pos k0] at iJ
     have hcl:(eo (r.body.l.take j)).length<=20:=by
      have h1:=qS (r.body.l.take j);have h2:=length_take_le' j r.body.l;omega
     obtain ⟨a2,h3,s1,s2,s3,s4,s5,s6⟩:=(o.ext x2).push pM (fun x=>rfl) (zero_le _) (bytes:=24) (by rw [length_append,length_cons];omega) (c.name,(c.args.l.length:Int));simp only [fh k0,aL,aR,reduceAdd,reduceEqDiff,reduceIte,aj k1,bP,QY,QZ,s1,aI hj Bj];refine qj _ _ ⟨a2,?_,e0,rfl,e4,rfl⟩;rw [iJ];simpa using s2
    ·rw [if_neg k0,append_nil] at iJ;simp only [eT k0,aK,aI hj Bj,an];exact qj _ _ ⟨a,by rw [iJ];exact o.ext x2,e0,e3,e4,rfl⟩
   ·rintro e h2 ⟨a,o,e0,e3,e4,e5⟩ K2 fo;rw [F.cP.dm];simp only [e0,e4,e5,aR,reduceAdd,reduceEqDiff,reduceIte,aV rules hi,ld 2 (by omega),aO,aS];rw [fo,F.cP.cq];simp only [e4,aR,reduceAdd,reduceEqDiff,reduceIte,aI hi hbig];refine hn _ _ ⟨a,?_,e0,e3,rfl⟩;rw [jD (dK _)] at o
    have:cD (rules.l.take (i+1))=cD (rules.l.take i)++(r.name,(r.args.l.length:Int)) :: eo r.body.l:=by
     unfold cD;rw [take_add_one,hv];simp [uU]
    rw [this];exact o
  ·rintro e h' ⟨a,o,e0,e3,e4⟩ K' hx;rw [F.cP.aT];simp only [e0,e4,aR,reduceAdd,reduceEqDiff,reduceIte,aS];rw [hx,F.cP.aF];rw [jD (dK _)] at o;simp only [bL,reduceEqDiff,reduceIte,e3]
   obtain ⟨x,jO,fo⟩:=o.LV (fun v y hy=>by
    simp only [nR,mem_cons,not_mem_nil,_root_.or_false] at hy
    rcases hy with rfl|rfl<;>exact .scalar _ rfl)
   exact cu.2 ⟨a,x,rfl,jO,fo⟩
 refine main.frozen (by simp [AV.cN,b7 fN]) fun o h' ho=>?_;obtain ⟨v,x,rfl,hx,hf⟩:=cu.1 ho;exact ⟨v,_,rfl,hf,hK x hx⟩
theorem Bl{f:St->(AX->St->Bool)->Bool}{K:AX->St->Bool}{defs:List qh}{e0:Env}{h0:Heap}(I:Nat->Env->Heap->Prop)(m:Nat)(hI:I m e0 h0)
  (step:∀ m e h,I m e h->∀ K':AX->St->Bool,(∀ m' e' h',m'<m->I m' e' h'->K' .normal ⟨e',n,defs,h'⟩=true)->(∀ id s,K' (.exit id) s=K (.exit id) s)->(∀ s,K' .ret s=K .ret s)->f ⟨e,n,defs,h⟩ K'=true):bV f ⟨e0,n,defs,h0⟩ K=true:=
 lG I m hI fun m e h hi=>step m e h hi _ (fun m' e' h' hlt wo=>r6 (I:=I) m' hlt wo) (fun _ _=>rfl) (fun _=>rfl)
theorem ye:∀ (l:List b8) (s:b8),(eY l s).length<=l.length+1
 |[],s=>dK _
 |x :: l,s=>by
  have:=ye l s;rw [eY];split
  ·rw [length_cons,length_cons];omega
  ·split
   ·omega
   ·simp
def dS(rs:List aN):List b8:=rs.foldl (fun o r=>eY o r.name) []
theorem OW{rs:List aN}{i:Nat}{r:aN}(hr:rs[i]?=some r):dS (rs.take (i+1))=eY (dS (rs.take i)) r.name:=by
 unfold dS;rw [take_add_one,hr];simp
theorem td:∀ (rs:List aN) (o:List b8),(rs.foldl (fun o r=>eY o r.name) o).length<=o.length+rs.length
 |[],o=>dK _
 |r :: rs,o=>by
  have h1:=td rs (eY o r.name);have h2:=ye o r.name;rw [foldl_cons,length_cons];omega
theorem pV(rs:List aN):(dS rs).length<=rs.length:=by
 have:=td rs [];simpa [dS] using this
theorem pW:∀ (rs:List aN) (o:List b8),sZ o->sZ (rs.foldl (fun o r=>eY o r.name) o)
 |[],o,h=>h
 |r :: rs,o,h=>pW rs _ (xm h r.name)
theorem qy(rs:List aN):sZ (dS rs):=pW rs [] List.Pairwise.nil
theorem tg{s:b8}:∀ (rs:List aN) (o:List b8),s ∈ rs.foldl (fun o r=>eY o r.name) o↔s ∈ o\/s ∈ bA rs
 |[],o=>by simp [bA]
 |r :: rs,o=>by
  rw [foldl_cons,tg rs,sF];simp [bA,_root_.or_assoc]
theorem eF(rs:List aN):s ∈ dS rs↔s ∈ bA rs:=by
 have:=tg (s:=s) rs [];simpa [dS] using this
theorem Bn{l:List b8}(h:sZ l):l.Nodup:=by
 unfold sZ at h;unfold List.Nodup;exact h.imp fun {a b} qX e=>by subst e;rw [oO] at qX;cases qX
theorem dF{rules:Sl aN}(tP:rules.l.length<=60){h:Heap}{K:Out->Heap->Bool}(hK:∀ x:Sl b8,x.l=dS rules.l->K (.ret (ak encS 1 x)) h=true) :
  Sem TP 35 [ak aO 3 rules] h K:=by
 have hbig:rules.l.length<=cE:=by unfold cE;omega
 have main:Sem TP 35 [ak aO 3 rules] Heap.empty (fun o h'=>yes (∃ v,∃ x:Sl b8,o = .ret v/\x.l=dS rules.l/\Fz true h' v (ak encS 1 x))):=by
  refine F.y7 ?_;rw [F.Ab];refine aD 0 rules.l.length (zero_le _) (fun i e h'=>∃ a,Own encS 1 0 h' a (dS (rules.l.take i))/\e 0=ak aO 3 rules/\e 3=a/\e 4 = .int .i64 (i:Int)) ⟨.ax,.nil,rfl,rfl,rfl⟩ ?_ ?_
  ·rintro i e h' _ hi ⟨a,o,e0,e3,e4⟩ K' hn hx hr hp;have hv:rules.l[i]?=some rules.l[i]:=ez hi;generalize rules.l[i]=r at hv;have ld:∀ h,ag none (.ef (rules.l.flatMap aO) (i*3)) h=some (.str r.name):=fun h=>fy gu hv (by omega:0<3);have iJ:=OW hv;rw [F.dF.aT];simp only [e0,e3,e4,aR,reduceAdd,reduceEqDiff,reduceIte,aZ hi,aV rules hi,ld];refine ai (eD o (zero_le _) (by have h1:=pV (rules.l.take i);have h2:=length_take_le i rules.l;omega) fun a1 h1 x1 o1=>?_);simp only [aR,reduceAdd,reduceEqDiff,reduceIte,aI hi hbig];exact hn _ _ ⟨a1,by rw [iJ];exact o1,e0,rfl,rfl⟩
  ·rintro e h' ⟨a,o,e0,e3,e4⟩ K' hx;rw [F.dF.aT];simp only [e0,e4,aR,reduceAdd,reduceEqDiff,reduceIte,aS];rw [hx,F.dF.aF];rw [jD (dK _)] at o;simp only [bL,reduceEqDiff,reduceIte,e3]
   obtain ⟨x,jO,fo⟩:=o.LV (fun v y hy=>by
    simp only [encS,mem_cons,not_mem_nil,_root_.or_false] at hy
    subst hy;exact .scalar _ rfl)
   exact cu.2 ⟨a,x,rfl,jO,fo⟩
 refine main.frozen (by simp [AV.cN,b7 fN]) fun o h' ho=>?_;obtain ⟨v,x,rfl,hx,hf⟩:=cu.1 ho;exact ⟨v,_,rfl,hf,hK x hx⟩
theorem er{x:Sl b8}{s:b8}(hx:x.l.length<=cE){h:Heap}{K:Out->Heap->Bool}(As:∀ i:Nat,x.l[i]?=some s->K (.ret (.int .i64 (i:Int))) h=true)(yp:s ∉ x.l->K (.ret (.int .i64 (-1))) h=true):Sem TP 128 [ak encS 1 x,.str s] h K:=by
 refine F.BE ?_;rw [F.Dp];refine aD 0 x.l.length (zero_le _) (fun i e h'=>h'=h/\e 0=ak encS 1 x/\e 1 = .str s/\e 5 = .int .i64 (i:Int)/\s ∉ x.l.take i) ⟨rfl,rfl,rfl,rfl,by simp⟩ ?_ ?_
 ·rintro i e h' _ hi ⟨rfl,e0,e1,e5,ht⟩ K' hn gi hr hp;have hv:x.l[i]?=some x.l[i]:=ez hi;generalize x.l[i]=t at hv;rw [F.er.aT];simp only [e0,e1,e5,aR,reduceAdd,reduceEqDiff,reduceIte,aZ hi,aV x hi,jC hv,sE];by_cases hq:t=s
  ·subst hq;simp only [decide_true,aL];rw [hr,F.er.bz];exact As i hv
  ·simp only [eT hq,aK,aI hi hx,an];refine hn _ _ ⟨rfl,e0,e1,rfl,?_⟩;rw [take_add_one,hv];simp only [toList_some,mem_append,mem_singleton];exact fun h=>h.elim ht fun h=>hq h.symm
 ·rintro e h' ⟨rfl,e0,e1,e5,ht⟩ K' gi;rw [F.er.aT];simp only [e0,e5,aR,reduceAdd,reduceEqDiff,reduceIte,aS];rw [gi,F.er.aF];rw [jD (dK _)] at ht;exact yp ht
end
end Go.AM