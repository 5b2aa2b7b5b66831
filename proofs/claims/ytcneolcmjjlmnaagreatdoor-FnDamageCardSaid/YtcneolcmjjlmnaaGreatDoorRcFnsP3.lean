import Derived.Test.YtcneolcmjjlmnaaGreatDoorRcFnsP2
open Option renaming some->Jg,none->Jh
open Bool renaming true->Ji
open Go renaming Value->Jl
open Go.IntKind renaming i64->Y
namespace Go.Proofs.YtcneolcmjjlmnaaGreatDoor
open Go Go.Vc
set_option linter.unusedVariables false
set_option linter.unusedSimpArgs false
set_option maxRecDepth 20000
set_option maxHeartbeats 4000000
attribute [local irreducible] CallsQ vLen vIdx IntKind.wrap hcell vNew vNewS vSliceS vStore1 vAppend vMake vCopy vB2S vS2B vNilS vSliceStr vStrIdx
section
variable {ψ:CM} {h:Heap} (hψ:CLe ψ (hcell h))
include hψ
theorem Zwq {o p0 u w r} (N:Zhm o=Jg r) (ad:CellsC (hcell h) p0 [.int .i64 o.Field.Prime,.int .i64 o.Field.Degree,u,w]) (ah:sc h eI u o.Field.Poly) (a6:sc h eL w o.Rows):CallsH P 260 #[.pointer (Jg p0)] h (λv h'=>∃w0 w1,v=.tuple #[.agg #[w0,w1],.int .i64 r.2]/\S ψ h h' [.it oL [w0] r.1.Colors,.it (El.ow Zg) [w1] r.1.Edges]):=by
 refine zT [[9,42],[13,48],[17,54],[20,60]] Tryz.func260 λC=>?_;refine new_S C λb2 ap C=>?_;refine cl0 N C (λs _ _ hx=>Zeo s.fle hx (CellsC.part 0 3 slA) slA) λaq ar C N=>⟨_,rfl,?_⟩
 apply brQ N<;>intro N
 .exact wX
 .refine kV ad C.le 3 ?_;refine ixV a6 C.le N λae au f N=>?_;refine vL f C.le ?_;refine cm1 N C (λs hx=>ZKG s hx slA slA slA) λk l av C N=>⟨_,rfl,?_⟩
  refine ZF slA ?_;apply brQ N<;>intro N
  .exact wX
  .refine new_S C λb6 aw C=>?_
   (iterate 2 refine boxA λai C=>?_)
   have C:=C.nilO (E:=eI);refine lw12 N (λy7 xs x=>([.box b6 [x,(.slice Jh 0 0)],.it (El.ow eL) [l] k,.box b2 [(.slice Jh 0 0),(.slice Jh 0 0)],.it oL [x] xs],y7,xs)) λy7 aj xs x a C N O=>?_;apply brQ N<;>intro N
   .exact wX
   .refine lw12 N (λy8 e g=>([.box b6 [g,(.slice Jh 0 0)],.it (El.ow eL) [l] k,.box b2 [(.slice Jh 0 0),(.slice Jh 0 0)],.it oL [g] e],y8,e)) λy8 ak e g ax C N O=>?_;refine ZF slA ?_;apply brQ N<;>intro N
    .exact wX
    .have C:=C.nilO (E:=Zg);refine lw12 N (λy9 i y=>([.box b6 [g,y],.it (El.ow eL) [l] k,.box b2 [(.slice Jh 0 0),(.slice Jh 0 0)],.it oL [g] e,.it (El.ow Zg) [y] i],y9,i)) λy9 al i y ay C N O=>?_;apply brQ N<;>intro N
     .refine lw12 N (λa2 j a3=>([.box b6 [g,a3],.it (El.ow eL) [l] k,.box b2 [(.slice Jh 0 0),(.slice Jh 0 0)],.it oL [g] e,.it (El.ow Zg) [a3] j],a2,j)) λa2 am j a3 az C N O=>?_;refine ZF slA ?_;apply brQ N<;>intro N
      .refine ixA slA N λb0 b1 a9 aa N=>?_;refine Zbk C 1 rfl a9 aa λb3 C=>?_;refine ixI slA N λb4 N=>?_;apply brQ N<;>intro N
       .refine bV C 1 1 ?_;obtain ⟨b5,ab,N⟩:=obind N;refine ZcA C 5 rfl (λ_=>⟨[.int .i64 y9],[.int .i64 (Y.wrap ((Y.wrap ((ae.length:Int)+a2))-1))],[],[],rfl,rfl,⟨rfl,rfl⟩,⟨rfl,rfl⟩⟩) rfl rfl ab λb7 ao C=>?_;exact wX
       .exact wX
      .exact wX
     .exact wX
omit hψ in
instance k93:Kn 260 (type_of% @Zwq):=⟨@Zwq⟩
theorem Zwc {e f a r} (N:ZcC e=Jg r) (i:CellsC (hcell h) f [.int .i64 e.Kind,.int .i64 e.Size,a]) (g:SlC ψ eL a e.Rows):CallsH P 197 #[.pointer (Jg f)] h (λv j=>∃w0 w1,v=.tuple #[.agg #[w0,w1],.int .i64 r.2]/\S ψ h j [.it oL [w0] r.1.Colors,.it (El.ow Zg) [w1] r.1.Edges]):=by
 refine zO Tryz.func197 λC=>?_;exact wX
omit hψ in
instance k94:Kn 197 (type_of% @Zwc):=⟨@Zwc⟩
theorem ZIi {budget0 r} (N:Zma budget0=Jg r)  :zR 312 #[.int .i64 budget0] h ψ (.bool r):=by
 refine zO Tryz.func312 λC=>?_;exact wX
theorem ZJ8 {f a e r} (N:ZnU f=Jg r) (g:sc h eI a f.Colors) (i:sc h Zg e f.Edges):zL 345 #[.agg #[a,e]] h ψ eL r:=by
 refine zT [[4,25,30],[8,37,42]] Tryz.func345 λC=>?_;exact wX
theorem Zyl {a v0 r} (N:ZfZ a=Jg r) (e:sc h eI v0 a):zR 369 #[v0] h ψ (.int .i64 r):=by
 refine zT [[3,19,24]] Tryz.func369 λC=>?_;exact wX
omit hψ in
instance k95:Kn 369 (type_of% @Zyl):=⟨@Zyl⟩
theorem Zu6 {f v0 r} (N:Zmr f=Jg r) (o:sc h eI v0 f):zL 394 #[v0] h ψ eI r:=by
 refine zU [[3,19,24],[7,30]] [[8]] Tryz.func394 λC=>?_;refine neA eI λv7 s C=>?_;refine lw21 N (λj k e=>([.it oL [j] e],e,k)) λj k u e a C N O=>?_;refine vL o C.le ?_;apply brQ N<;>intro N
 .refine ZF slA ?_;refine ixI slA N λv N=>?_;refine puA N 0 λw g x C N=>?_;refine lw11 N (λk5 xs=>([.it oL [g] xs],k5,xs)) λk5 y xs l C N O=>?_;refine ⟨λi=>S ψ h i [.it oL [g] xs]/\ZpK k5 xs=Jg l,?_,?_⟩
  .exact wX
  .rintro _ i ⟨C,N⟩;exact wX
 .exact wX
theorem ZHG {lists0 v0 x1 v1 r} (N:Zsg lists0 x1=Jg r) (y:SlC ψ eL v0 lists0) (k:SlC ψ eI v1 x1):zL 395 #[v0,v1] h ψ eL r:=by
 refine zU [[4,31,39,42]] [[8,165],[11,31,39]] Tryz.func395 λC=>?_;refine neA eL λv9 a5 C=>?_;refine lw31 N (λv5 j o e=>([.it (El.ow eL) [v5] e],e,j,o)) λv5 j o a6 e a C N O=>?_;refine vL y C.leF ?_;apply brQ N<;>intro N
 .refine ixV y C.leF N λa7 a8 f N=>?_;refine cl0 N C (λs _ _ a3=>Zn2 s.fle a3 (f.mono C.leF) (k.mono C.leF)) λa4 a9 C N=>⟨_,rfl,?_⟩
  refine ⟨λl i u=>∃g,S ψ h u [.it (El.ow eL) [l] g]/\Zdl lists0 o g i=Jg a,?_,?_⟩
  .refine ⟨λv w=>S ψ h w [.it (El.ow eL) [v5] e]/\Zds lists0 x1 e j o a4 v=Jg a,?_,?_⟩
   .exact wX
   .rintro _ v w ⟨C,N⟩;apply brQ N<;>intro N
    .apply brQ N<;>intro N
     .refine ZD (k.mono C.leF).one ?_;have C:=C.arg k;exact wX
     .exact wX
    .exact wX
  .rintro _ l i u ⟨g,C,N⟩;refine ixV y C.leF N λaa ab x N=>?_;refine ZD (x.mono C.leF).one ?_;have C:=C.arg x;exact wX
 .apply brQ N<;>intro N
  .refine ZD (k.mono C.leF).one ?_;have C:=C.arg k;exact wX
  .exact wX
theorem Zzw {y0 v0 y1 v1 r} (N:Zjg y0 y1=Jg r) (f0:sc h eL v0 y0) (f1:sc h eI v1 y1):zL 370 #[v0,v1] h ψ eI r:=by
 refine zS hψ ⟨an [[4,37,42],[8,49,54],[14,61,66],[19,73,78],[22,73,84]],[],[],[(11,⟨kdL [0,0,0,0,2,3,0,3,4,4,4,0],.both (.fin (rgs [(1,9),(0,1),(10,2)])) (.fin [6,7,1,2,3,4,5,8,9,0,10,11]),Ji⟩)]⟩ Tryz.func370 λC=>?_;refine vL f0 C.le ?_;refine neA eL λb6 b7 C=>?_;refine lw21 N (λw y7 k=>([.it (El.ow eL) [w] k],k,y7)) λw y7 b8 k a C N O=>?_;apply brQ N<;>intro N
 .refine neA eI λb9 ba C=>?_;refine lw21 N (λv8 y9 y8=>([.it oL [v8] y8,.it (El.ow eL) [w] k],y8,y9)) λv8 y9 ag y8 bb C N O=>?_;refine ixV f0 C.le N λbc bd f N=>?_;refine vL f C.le ?_;apply brQ N<;>intro N
  .exact wX
  .obtain ⟨j,g,N⟩:=obind N;obtain ⟨be,l,N⟩:=obind N;obtain ⟨bf,o,N⟩:=obind N;obtain ⟨bg,u,N⟩:=obind N;refine ⟨λ_=>False,?_⟩;have i:=C;have e:=eX ag;refine ⟨?_,?_⟩
   .refine ZS slA g λai a6=>?_;refine Z9 ?_;refine ldI_C (f1.mono i.le) a6 g ?_;refine Zzi (E:=eI) (css:=[[.int .i64 j]]) (xs:=([j]:Jb)) C (λ_=>⟨[],[],rfl,⟨rfl,rfl⟩,rfl⟩) rfl rfl λaj av xE C=>⟨eZ (e.trans xE),?_⟩
    replace e:=e.trans xE;refine ce1 C (λs=>Zu6 s.fle l slA) λak aw xE C=>⟨_,rfl,eZ (e.trans xE),?_⟩
    replace e:=e.trans xE;refine app_S C 1 rfl (ZdE (Zcy _) slA) rfl rfl o λal ax C=>?_;dsimp at C;refine ZD oneA ?_;have C:=frA 1;have C:=C.copyF 1 rfl;refine Zcn C 3 rfl rfl rfl u λam ay C=>?_;exact wX
   .refine ce1 C (λs=>Zu6 s.fle l slA) λao az xE C=>⟨_,rfl,eZ (e.trans xE),?_⟩
    replace e:=e.trans xE;refine ZS slA g λap a7=>?_;refine Z9 ?_;refine ldI_C (f1.mono i.le) a7 g ?_;refine Zzi (E:=eI) (css:=[[.int .i64 j]]) (xs:=([j]:Jb)) C (λ_=>⟨[],[],rfl,⟨rfl,rfl⟩,rfl⟩) rfl rfl λaq b0 xE C=>⟨eZ (e.trans xE),?_⟩
    replace e:=e.trans xE;refine app_S C 0 rfl (ZdE (Zcy _) slA) rfl rfl o λar b1 C=>?_;dsimp at C;refine ZD oneA ?_;have C:=frA 0;have C:=C.copyF 0 rfl;refine Zcn C 3 rfl rfl rfl u λau b2 C=>?_;exact wX
 .refine neA eL λbh b3 C=>?_;refine lw21 N (λa2 a3 v=>([.it (El.ow eL) [a2] v,.it (El.ow eL) [w] k],v,a3)) λa2 a3 b4 v bi C N O=>?_;apply brQ N<;>intro N
  .refine ixA slA N λbj bk a8 x N=>?_;refine Zbk C 1 rfl a8 x λbm C=>?_;have C:=frA 1;refine cl1 N C (λah a4 _ y=>ZHG ah.fle y (frF a4 1 rfl) (frF a4 0 rfl)) λbn bo b5 C N=>⟨_,rfl,?_⟩
   exact endL
  .exact wX
omit hψ in
instance k96:Kn 370 (type_of% @Zzw):=⟨@Zzw⟩
theorem ZAO {a v0 cells1 v1 r} (N:Zgy a cells1=Jg r) (e:sc h eL v0 a) (f:sc h eI v1 cells1):zL 347 #[v0,v1] h ψ eI r:=by
 refine zT [[3,30,37]] Tryz.func347 λC=>?_;exact wX
theorem ZEV {cells0 v0 r} (N:Zj8 cells0=Jg r) (j:sc h eI v0 cells0):zR 366 #[v0] h ψ (.int .i64 r):=by
 refine zU [[3,18,24],[6,18,30]] [[9,225]] Tryz.func366 λC=>?_;refine lp2 N (nlS C) λm k l s a C N O=>?_;refine vL j C.le ?_;refine brY λN=>?_;refine lp2 N (nlS C) λu e o v i C N O=>?_;apply brQ N<;>intro N
 .refine ⟨λf g=>S ψ h g []/\ZcP cells0 l e o f=Jg i,?_,?_⟩
  .exact wX
  .rintro _ f g ⟨C,N⟩;exact wX
 .exact wX
theorem ZFP {f a e g v1 r} (N:Zjx f g=Jg r) (i:sc h eI a f.Colors) (j:sc h Zg e f.Edges) (k:sc h eI v1 g):CallsH P 367 #[.agg #[a,e],v1] h (λv l=>∃w0 w1,v=.agg #[w0,w1]/\S ψ h l [.it oL [w0] r.Colors,.it (El.ow Zg) [w1] r.Edges]):=by
 refine zT [[3,36],[8,48]] Tryz.func367 λC=>?_;exact wX
theorem ZwQ {f a e r} (N:Zjl f=Jg r) (g:sc h eI a f.Colors) (i:sc h Zg e f.Edges):zL 393 #[.agg #[a,e]] h ψ eI r:=by
 refine zS hψ ⟨an [[3,19,24]],[],[],[(5,⟨[],.fin (rgs [(1,13),(0,1),(14,2)]),false⟩)]⟩ Tryz.func393 λC=>?_;exact wX
omit hψ in
instance k97:Kn 393 (type_of% @ZwQ):=⟨@ZwQ⟩
theorem Zyo {i a e h1 f g r} (N:ZhY i h1=Jg r) (j:sc h eI a i.Colors) (k:sc h Zg e i.Edges) (l:sc h eI f h1.Colors) (o:sc h Zg g h1.Edges):zR 368 #[.agg #[a,e],.agg #[f,g]] h ψ (.int .i64 r):=by
 refine zS hψ ⟨[],[],[],[(4,⟨kdL [1,3,2,4,4,0],.fin [0,1,2,3,4,5],Ji⟩)]⟩ Tryz.func368 λC=>?_;exact wX
omit hψ in
instance k98:Kn 368 (type_of% @Zyo):=⟨@Zyo⟩
end
theorem rq_spec_l22Find_run {a5:ZH->Jb->Jm ZH}  (a9:∀{ψ:CM} {o h:Heap} {os:List Ob} {e:ZH} {b0:Nat} {f:Jc} {g:Jl} {i:Jl} {j:Jl} {y:Jl} {a2:Jl} {a3:Jl} {y1:Jb} {v1:Jl} {r:ZH} (N:a5 e y1=Jg r) (C:S ψ o h (.box b0 (g::i::j::y::a2::a3::.int .i64 e.qnodes::.int .i64 e.qleaves::.int .i64 e.qbudget::.bool e.qfull::f)::.it oL [y] e.qbest.Colors::.it (El.ow Zg) [a2] e.qbest.Edges::.it (El.ow eL) [a3] e.qperms::os)) (ac:SlC (UB ψ o) eI g e.qg.Colors) (ad:SlC (UB ψ o) Zg i e.qg.Edges) (ae:SlC (UB ψ o) eL j e.qnear) (f1:SlC (UB ψ o) eI v1 y1),CallsH P 346 #[.pointer (Jg ⟨b0,0,Jh⟩),v1] h (λv h'=>∃w0 w1 w2,v=.tuple #[]/\S ψ o h' (.box b0 (g::i::j::w0::w1::w2::.int .i64 r.qnodes::.int .i64 r.qleaves::.int .i64 r.qbudget::.bool r.qfull::f)::.it oL [w0] r.qbest.Colors::.it (El.ow Zg) [w1] r.qbest.Edges::.it (El.ow eL) [w2] r.qperms::os))):∀{ψ:CM} {o h:Heap} {os:List Ob} {e:ZH} {b0:Nat} {f:Jc} {g:Jl} {i:Jl} {j:Jl} {y:Jl} {a2:Jl} {a3:Jl} {y1:Jb} {v1:Jl} {r:ZH} (N:q_spec_l22Find_run a5 e y1=Jg r) (C:S ψ o h (.box b0 (g::i::j::y::a2::a3::.int .i64 e.qnodes::.int .i64 e.qleaves::.int .i64 e.qbudget::.bool e.qfull::f)::.it oL [y] e.qbest.Colors::.it (El.ow Zg) [a2] e.qbest.Edges::.it (El.ow eL) [a3] e.qperms::os)) (ac:SlC (UB ψ o) eI g e.qg.Colors) (ad:SlC (UB ψ o) Zg i e.qg.Edges) (ae:SlC (UB ψ o) eL j e.qnear) (f1:SlC (UB ψ o) eI v1 y1),CallsH P 346 #[.pointer (Jg ⟨b0,0,Jh⟩),v1] h (λv h'=>∃w0 w1 w2,v=.tuple #[]/\S ψ o h' (.box b0 (g::i::j::w0::w1::w2::.int .i64 r.qnodes::.int .i64 r.qleaves::.int .i64 r.qbudget::.bool r.qfull::f)::.it oL [w0] r.qbest.Colors::.it (El.ow Zg) [w1] r.qbest.Edges::.it (El.ow eL) [w2] r.qperms::os)):=by
 intro ψ o h os e b0 f g i j y a2 a3 y1 v1 r N C ac ad ae f1;refine zv ⟨an [[13,42],[22,49,54]],an [[7,36],[10],[18],[27,60]],[],[(11,⟨kdL [0,0,0,0,2,0,3,3,4,0,0,4],.fin [5,6,7,1,2,3,4,8,0,9,10,11],Ji⟩)]⟩ Tryz.func346 ?_;rw [q_spec_l22Find_run] at N;refine cm0 N C (λs hx=>ZEV s hx slA) λbm c7 C N=>⟨_,rfl,?_⟩
 apply brQ N<;>intro N
 .refine bI C 0 7 ?_;refine boxA λc8 C=>?_;refine lsA ?_;refine cm2 N C (λs hx=>ZFP s hx slA slA slA) λal b6 ai c9 C N=>⟨_,_,rfl,?_⟩
  refine new_S C λb5 ca C=>?_
  (iterate 2 refine boxA λcb C=>?_)
  refine ⟨λy6 b7=>S ψ o b7 (.box b5 [b6,ai]::.it oL [b6] al.Colors::.it (El.ow Zg) [ai] al.Edges::.box b0 (g::i::j::y::a2::a3::.int .i64 e.qnodes::.int .i64 (Y.wrap (e.qleaves+1))::.int .i64 e.qbudget::.bool e.qfull::f)::.it oL [y] e.qbest.Colors::.it (El.ow Zg) [a2] e.qbest.Edges::.it (El.ow eL) [a3] e.qperms::os)/\ZdF e y1 al y6=Jg r,?_,?_⟩
  .exact wX
  .rintro _ y6 b7 ⟨C,N⟩;refine ⟨λam=>∃xs ao af ap ag aq,S ψ o am (.box b0 (g::i::j::ao::ap::aq::.int .i64 e.qnodes::.int .i64 (Y.wrap (e.qleaves+1))::.int .i64 e.qbudget::.bool e.qfull::f)::.it oL [ao] xs::.it (El.ow Zg) [ap] af::.it (El.ow eL) [aq] ag::os)/\Zd0 e y1 y6 xs af ag=Jg r,?_,?_⟩
   .exact wX
   .rintro _ am ⟨xs,ao,af,ap,ag,aq,C,N⟩;apply brQ N<;>intro N
    .refine ⟨λ_=>False,?_⟩;have b1:=C;have a8:=eX am;obtain ⟨cc,bc,N⟩:=obind N;refine ce1 C (λs=>Zdv s.fle bc slA) λcd bt xE C=>⟨_,rfl,eZ (a8.trans xE),?_⟩
     replace a8:=a8.trans xE;refine ZD oneA ?_;refine ZbL C λce bu xE C=>⟨eZ (a8.trans xE),?_⟩
     replace a8:=a8.trans xE;refine Z8 ?_;refine ldV_K (b1.cells 0 rfl) 5 rfl rfl ?_;have C:=frA 1;have C:=C.copyF 1 rfl;obtain ⟨cf,bd,N⟩:=obind N;refine Zas C 5 rfl 0 rfl rfl rfl bd λcg bv xE C=>?_;exact wX
    .exact wX
 .obtain ⟨bn,hn⟩:=ZP N;refine ⟨λn y7 ar=>∃q a6 a7 au u a4 w k x l,S ψ o ar (.box b0 (g::i::j::a4::k::l::.int .i64 q::.int .i64 a6::.int .i64 a7::.bool au::f)::.it oL [a4] u::.it (El.ow Zg) [k] w::.it (El.ow eL) [l] x::os)/\loopN (Zbz a5 e y1 bm) n (y7,q,a6,a7,au,u,w,x)=Jg r,⟨bn,_,_,_,_,_,_,_,_,_,_,pkT C 4 [0,1,2,3],hn⟩,?_⟩;rintro n _ y7 ar ⟨q,a6,a7,au,u,a4,w,k,x,l,C,hn⟩;obtain ⟨m,a,rfl,N,O⟩:=ZN hn;refine vL f1 C.leU ?_;apply brQ N<;>intro N
  .refine ixI slA N λch N=>?_;apply brQ N<;>intro N
   .exact wX
   .refine ⟨λav=>∃aa,S ψ o av (.box b0 (g::i::j::a4::k::l::.int .i64 q::.int .i64 a6::.int .i64 a7::.bool aa::f)::.it oL [a4] u::.it (El.ow Zg) [k] w::.it (El.ow eL) [l] x::os)/\ZeG a5 e y1 y7 q a6 a7 u w x aa=Jg a,?_,?_⟩
    .exact wX
    .rintro _ av ⟨aa,C,N⟩;refine bB C 0 9 ?_;apply brQ N<;>intro N
     .exact wX
     .refine bI C 0 6 ?_;refine boxA λbw C=>?_;refine neA eI λcj bx C=>?_;obtain ⟨bo,ah⟩:=ZP N;refine ⟨λb8 v8 y9 aw=>∃y8,S ψ o aw (.it oL [v8] y8::.box b0 (g::i::j::a4::k::l::.int .i64 (Y.wrap (q+1))::.int .i64 a6::.int .i64 a7::.bool aa::f)::.it oL [a4] u::.it (El.ow Zg) [k] w::.it (El.ow eL) [l] x::os)/\loopN (Zdb a5 e y1 y7 q a6 a7 u w x aa) b8 (y8,y9)=Jg a,⟨bo,_,pkT C 5 [0,1,2,3,4],ah⟩,?_⟩;rintro b8 _ v8 y9 aw ⟨y8,C,ah⟩;obtain ⟨ck,bp,rfl,N,bg⟩:=ZN ah;refine vL f1 C.leU ?_;apply brQ N<;>intro N
      .refine ixI slA N λbz N=>?_;refine ⟨λb9 ax=>S ψ o ax (.it oL [v8] y8::.box b0 (g::i::j::a4::k::l::.int .i64 (Y.wrap (q+1))::.int .i64 a6::.int .i64 a7::.bool aa::f)::.it oL [a4] u::.it (El.ow Zg) [k] w::.it (El.ow eL) [l] x::os)/\ZhU y8 y9 b9=Jg bp,?_,?_⟩
       .exact wX
       .rintro _ b9 ax ⟨C,N⟩;exact wX
      .refine bV C 1 2 ?_;refine cm1 N C (λs hx=>ZAO s hx slA slA) λbh bi bj C N=>⟨_,rfl,?_⟩
       have C:=frA 0;have C:S ψ o bj (.box b0 (g::i::j::a4::k::l::.int .i64 (Y.wrap (q+1))::.int .i64 a6::.int .i64 a7::.bool aa::f)::.it oL [a4] u::.it (El.ow Zg) [k] w::.it (El.ow eL) [l] x::.it eL [bi] bh::.it oL [v8] y8::os):=pkT C 6 [2,3,4,5,0,1];obtain ⟨c0,b4,N⟩:=obind N;obtain ⟨c3,cm,ab,ay⟩:=id C;refine (a9 b4 (ab.upS ay) (ac.mono ab.ubU) (ad.mono ab.ubU) (ae.mono ab.ubU) ((frF ay 4 rfl).mono ab.ubF)).mono λc4 c5 ⟨c6,bq,br,bk,ba⟩=>⟨bk,?_⟩
       replace C:=ab.downS ba;clear ba ab ay;obtain rfl:=oI N;obtain rfl:=oI bg;exact wX
  .exact wX
theorem rn_spec_l22Find_run:∀n,(∀{ψ:CM} {j h:Heap} {os:List Ob} {a:ZH} {s:Nat} {i:Jc} {e:Jl} {f:Jl} {g:Jl} {k:Jl} {l:Jl} {o:Jl} {u:Jb} {v1:Jl} {r:ZH} (N:(pn_spec_l22Find_run n) a u=Jg r) (C:S ψ j h (.box s (e::f::g::k::l::o::.int .i64 a.qnodes::.int .i64 a.qleaves::.int .i64 a.qbudget::.bool a.qfull::i)::.it oL [k] a.qbest.Colors::.it (El.ow Zg) [l] a.qbest.Edges::.it (El.ow eL) [o] a.qperms::os)) (w:SlC (UB ψ j) eI e a.qg.Colors) (x:SlC (UB ψ j) Zg f a.qg.Edges) (y:SlC (UB ψ j) eL g a.qnear) (f1:SlC (UB ψ j) eI v1 u),CallsH P 346 #[.pointer (Jg ⟨s,0,Jh⟩),v1] h (λv h'=>∃w0 w1 w2,v=.tuple #[]/\S ψ j h' (.box s (e::f::g::w0::w1::w2::.int .i64 r.qnodes::.int .i64 r.qleaves::.int .i64 r.qbudget::.bool r.qfull::i)::.it oL [w0] r.qbest.Colors::.it (El.ow Zg) [w1] r.qbest.Edges::.it (El.ow eL) [w2] r.qperms::os))):=by
  intro n;induction n with
  | zero=>exact λN=>absurd N (by simp [pn_spec_l22Find_run])
  | succ n ih=>exact rq_spec_l22Find_run ih
theorem ZFH:∀{ψ:CM} {j h:Heap} {os:List Ob} {a:ZH} {s:Nat} {i:Jc} {e:Jl} {f:Jl} {g:Jl} {k:Jl} {l:Jl} {o:Jl} {u:Jb} {v1:Jl} {r:ZH} (N:Zra a u=Jg r) (C:S ψ j h (.box s (e::f::g::k::l::o::.int .i64 a.qnodes::.int .i64 a.qleaves::.int .i64 a.qbudget::.bool a.qfull::i)::.it oL [k] a.qbest.Colors::.it (El.ow Zg) [l] a.qbest.Edges::.it (El.ow eL) [o] a.qperms::os)) (w:SlC (UB ψ j) eI e a.qg.Colors) (x:SlC (UB ψ j) Zg f a.qg.Edges) (y:SlC (UB ψ j) eL g a.qnear) (f1:SlC (UB ψ j) eI v1 u),CallsH P 346 #[.pointer (Jg ⟨s,0,Jh⟩),v1] h (λv h'=>∃w0 w1 w2,v=.tuple #[]/\S ψ j h' (.box s (e::f::g::w0::w1::w2::.int .i64 r.qnodes::.int .i64 r.qleaves::.int .i64 r.qbudget::.bool r.qfull::i)::.it oL [w0] r.qbest.Colors::.it (El.ow Zg) [w1] r.qbest.Edges::.it (El.ow eL) [w2] r.qperms::os)):=(rn_spec_l22Find_run fuel)
section
variable {ψ:CM} {h:Heap} (hψ:CLe ψ (hcell h))
include hψ
theorem ZOr {l e f budget1 r} (N:ZpN l budget1=Jg r) (o:sc h eI e l.Colors) (u:sc h Zg f l.Edges):CallsH P 313 #[.agg #[e,f],.int .i64 budget1] h (λv h'=>∃k w1 w2 w3 w4 w5 w6,v=.pointer (Jg ⟨k,0,Jh⟩)/\S ψ h h' [.box k [w1,w2,w3,w4,w5,w6,.int .i64 r.qnodes,.int .i64 r.qleaves,.int .i64 r.qbudget,.bool r.qfull],.it oL [w4] r.qbest.Colors,.it (El.ow Zg) [w5] r.qbest.Edges,.it (El.ow eL) [w6] r.qperms]):=by
 refine zS hψ ⟨[],[],[],[(1,⟨kdL [2,1,3,0,0,4,0],.fin [1,2,0,3,4,5,6],Ji⟩),(2,⟨[],.fin [1,2,3,4,5,6,7,0,8],false⟩)]⟩ Tryz.func313 λC=>?_;refine new_S C λb2 a5 C=>?_;refine ⟨λ_=>False,?_⟩;have i:=C;have g:=eX a5;refine lsA ?_;obtain ⟨r8,w,N⟩:=obind N;refine ce1 C (λs=>ZJ8 s.fle w slA slA) λv8 ah xE C=>⟨_,rfl,eZ (g.trans xE),?_⟩
 replace g:=g.trans xE;refine Z8 ?_;refine ldV_K (i.cells 0 rfl) 0 rfl rfl ?_;refine Z8 ?_;refine ldV_K (i.cells 0 rfl) 1 rfl rfl ?_;refine ZD oneA ?_;refine new_S C λa7 ai C=>?_;refine lsA ?_;refine cm1 N C (λs w=>ZAO s w slA slA) λa8 a9 aa C N=>⟨_,rfl,?_⟩
 have C:=frA 2;have C:=frA 0;have C:=C.nil eI;have C:=C.nil Zg;have C:=C.nil eL;have C:S ψ h aa [.box a7 [e,f,v8,(.slice Jh 0 0),(.slice Jh 0 0),(.slice Jh 0 0),.int .i64 0,.int .i64 0,.int .i64 budget1,.bool false],.it oL [(.slice Jh 0 0)] ([]:Jb),.it (El.ow Zg) [(.slice Jh 0 0)] ([]:List Zc),.it (El.ow eL) [(.slice Jh 0 0)] ([]:Ja),.it eL [a9] a8,.it (El.sl eL) [v8] r8,.box b2 [e,f]]:=pk C [4,2,1,0,3,5,6];obtain ⟨aj,x,N⟩:=obind N;obtain ⟨ag,ak,a,j⟩:=id C;refine (ZFH x (a.upS j) (o.mono a.ubH) (u.mono a.ubH) ((frF j 5 rfl).mono a.ubF) ((frF j 4 rfl).mono a.ubF)).mono λal am ⟨ao,ac,ad,y,ab⟩=>⟨y,?_⟩
 replace C:=a.downS ab;exact wX
theorem ZIc {i a e budget1 r} (N:Zmo i budget1=Jg r) (a7:sc h eI a i.Colors) (a8:sc h Zg e i.Edges):CallsH P 261 #[.agg #[a,e],.int .i64 budget1] h (λv h'=>∃f w1 w2 w3 o u w,v=.tuple #[.pointer (Jg ⟨f,0,Jh⟩),.int .i64 r.2]/\S ψ h h' [.box f [w1,w2,w3,o,u,w,.int .i64 r.1.qnodes,.int .i64 r.1.qleaves,.int .i64 r.1.qbudget,.bool r.1.qfull],.it oL [o] r.1.qbest.Colors,.it (El.ow Zg) [u] r.1.qbest.Edges,.it (El.ow eL) [w] r.1.qperms]):=by
 refine zO Tryz.func261 λC=>?_;refine new_S C λb2 ab C=>?_;refine lsA ?_;refine cm0 N C (λs j=>Zte s j slA slA) λr8 ac C N=>⟨_,rfl,?_⟩
 apply brQ N<;>intro N
 .exact wX
 .refine cm0 N C (λs j=>ZIi s j) λad ae C N=>⟨_,rfl,?_⟩
  apply brQ N<;>intro N
  .exact wX
  .refine lsA ?_;obtain ⟨af,k,N⟩:=obind N;obtain ⟨aa,ag,g,x⟩:=id C;refine (ZOr g.fle k slA slA).mono λah ai ⟨aj,ak,a2,a3,a4,a5,a6,l,y⟩=>⟨_,l,?_⟩
   replace C:=join4 g x y;exact wX
theorem Zd6 {n0 r} (N:Zck n0=Jg r)  :zR 24 #[.int .i64 n0] h ψ (.string r):=by
 refine zU [[3,19,24]] [[8,30]] Tryz.func24 λC=>?_;refine neA (El.int .u8) λx k C=>?_;refine lw21 N (λi k4 e=>([.it (El.ow (El.int .u8)) [i] e],e,k4)) λi k4 l e a C N O=>?_;apply brQ N<;>intro N
 .refine gzA N λN=>?_;refine ⟨λf g=>S ψ h g [.it (El.ow (El.int .u8)) [i] e]/\ZhH e k4 f=Jg a,?_,?_⟩
  .exact wX
  .rintro _ f g ⟨C,N⟩;refine ZW (E:=(El.int .u8)) (css:=[[.int .u8 (IntKind.u8.wrap (Y.wrap (48+f)))]]) (xs:=([IntKind.u8.wrap (Y.wrap (48+f))]:Jb)) C (λ_=>⟨[],[],rfl,⟨rfl,rfl⟩,rfl⟩) rfl rfl λo s C=>?_;obtain ⟨u,j,N⟩:=obind N;refine app_S C 0 rfl (ZdE (Zcy _) slA) rfl rfl j λv w C=>?_;exact wX
 .exact wX
omit hψ in
instance k99:Kn 24 (type_of% @Zd6):=⟨@Zd6⟩
theorem ZpW {e v0 r} (N:ZgR e=Jg r) (i:sc h eI v0 e):zR 126 #[v0] h ψ (.string r):=by
 refine zU [[7,20,24]] [[13,20]] Tryz.func126 λC=>?_;refine vL i C.le ?_;refine brZ λN=>?_;refine vL i C.le ?_;refine brZ λN=>?_;refine lp2 N (nlS C) λm j k o a C N O=>?_;refine vL i C.le ?_;refine brY λN=>?_;refine ixI slA N λu N=>?_;refine cm0 N C (λs l=>Zj9 s l) λv w C N=>⟨_,rfl,?_⟩
 refine brZ λN=>?_;refine ⟨λf g=>S ψ h g []/\ZhE e k f=Jg a,?_,?_⟩
 .refine brY λN=>?_;refine gfA N λN=>?_;exact tZ
 .rintro _ f g ⟨C,N⟩;exact wX
theorem Zzl {o e f r} (N:ZlL o=Jg r) (a5:sc h eI e o.Colors) (i:sc h Zg f o.Edges):zR 262 #[.agg #[e,f]] h ψ (.string r):=by
 refine zS hψ ⟨an [[3,20,24]],an [[7,20]],[],[(7,⟨kdL [0,0,1,0,0,0,1,3,0,0,2,0,0,0,2,4,0,0,0],.fin (rgs [(1,7),(9,7),(0,1),(8,1),(16,3)]),Ji⟩)]⟩ Tryz.func262 λC=>?_;refine new_S C λb1 ab C=>?_;refine bV C 0 0 ?_;refine cm0 N C (λs u=>ZpW s u slA) λr7 ac C N=>⟨_,rfl,?_⟩
 refine gfA N λN=>?_;refine lp2 (os:=[.box b1 [e,f]]) N (pk C [0]) λm a6 i4 ae a C N O=>?_;refine bV C 0 1 ?_;refine vL i C.le ?_;refine brY λN=>?_;refine ⟨λg l=>S ψ h l [.box b1 [e,f]]/\ZgB o i4 g=Jg a,?_,?_⟩
 .apply brQ N<;>intro N
  .refine gfA N λN=>?_;exact endC
  .exact wX
 .rintro _ g l ⟨C,N⟩;refine ⟨λ_=>False,?_⟩;have k:=C;have j:=eX l;refine bV C 0 1 ?_;refine ixA slA N λaf ag ad v N=>?_;obtain ⟨cs,ck,hr⟩:=i.cells ad v rfl;obtain rfl:=Zcu hr;refine kI ck C.le 0 ?_;obtain ⟨ah,w,N⟩:=obind N;refine ce0 C (λs=>Zd6 s.fle w) λai xE C=>⟨_,rfl,eZ (j.trans xE),?_⟩
  replace j:=j.trans xE;refine Z8 ?_;refine ldV_K (k.cells 0 rfl) 1 rfl rfl ?_;refine ixA slA N λaj ak x y N=>?_;obtain ⟨aa,a2,a3⟩:=i.cells x y rfl;obtain rfl:=Zcu a3;refine Z9 ?_;refine kI a2 k.le 1 ?_;refine cm0 N C (λs u=>Zd6 s u) λal am C N=>⟨_,rfl,?_⟩
  refine gfA N λN=>?_;refine gfA N λN=>?_;refine gfA N λN=>?_;exact endL
omit hψ in
instance k100:Kn 262 (type_of% @Zzl):=⟨@Zzl⟩
theorem ZCW {f a e budget1 r} (N:ZeU f budget1=Jg r) (u:sc h eI a f.Colors) (v:sc h Zg e f.Edges):zR 198 #[.agg #[a,e],.int .i64 budget1] h ψ (.tuple #[.string r.1,.int .i64 r.2]):=by
 refine zO Tryz.func198 λC=>?_;refine new_S C λb2 x C=>?_;refine lsA ?_;obtain ⟨y,w,N⟩:=obind N;obtain ⟨φ,L,s,g⟩:=id C;refine (ZIc s.fle w slA slA).mono λa2 a3 ⟨a4,a5,i,j,k,l,o,eq,t⟩=>⟨_,_,eq,?_⟩
 replace C:=join4 s g t;exact wX
omit hψ in
instance k101:Kn 198 (type_of% @ZCW):=⟨@ZCW⟩
theorem ZOn {e a budget1 r} (N:Zlj e budget1=Jg r) (f:SlC ψ eL a e.Rows):zR 122 #[.agg #[.int .i64 e.Kind,.int .i64 e.Size,a],.int .i64 budget1] h ψ (.tuple #[.string r.1,.int .i64 r.2]):=by
 refine zO Tryz.func122 λC=>?_;exact wX
theorem Zva {e f a budget1 r} (N:ZjN e budget1=Jg r) (k:CellsC (hcell h) f [.int .i64 e.Kind,.int .i64 e.Size,a]) (i:sc h eL a e.Rows):zR 60 #[.pointer (Jg f),.int .i64 budget1] h ψ (.tuple #[.string r.1,.int .i64 r.2]):=by
 refine zO Tryz.func60 λC=>?_;refine lsA ?_;obtain ⟨l,j,N⟩:=obind N;obtain ⟨φ,L,s,g⟩:=id C;refine (ZOn (CLe.refl _) j slA).mono λo u ⟨eq,t⟩=>⟨_,_,eq,?_⟩
 replace C:=join0 s g (t.weak s.fle);exact wX
omit hψ in
instance k102:Kn 60 (type_of% @Zva):=⟨@Zva⟩
theorem ZIV {k l g e r} (N:Zmu k e=Jg r) (j:CellsC (hcell h) l [g]) (i:sc h Zaf g k.Items):zR 123 #[.pointer (Jg l),.string e] h ψ (.int .i64 r):=by
 refine zT [[2,30]] Tryz.func123 λC=>?_;refine lp1 N (nlS C) λm i5 u a C N O=>?_;refine kV j C.le 0 ?_;refine vL i C.le ?_;refine brY λN=>?_;refine kV j C.le 0 ?_;refine ixA slA N λv w o s N=>?_;obtain ⟨cs,y,hr⟩:=i.cells o s rfl;obtain ⟨x,rfl,f⟩:=ZaV hr;exact wX
theorem Zri {x0 i g r} (N:ZeC x0=Jg r) (f:CellsC (hcell h) i [.string x0.Name,.int .i64 x0.Object.Kind,.int .i64 x0.Object.Size,g,.string x0.Key]) (u:sc h eL g x0.Object.Rows):CallsH P 124 #[.pointer (Jg i)] h (λv h'=>∃w0,v=.agg #[.string r.Name,.int .i64 r.Object.Kind,.int .i64 r.Object.Size,w0,.string r.Key]/\S ψ h h' [.it (El.ow eL) [w0] r.Object.Rows]):=by
 refine zS hψ ⟨[],[],[],[(1,⟨kdL [0,0,0,0,2,0,0,0,0,2,0,0,0,0,2,3,0,3,4],.both (.fin (rgs [(10,6),(17,1),(0,10),(16,1),(18,1)])) (.fin (rgs [(17,1),(10,6),(0,10),(16,1),(18,1)])),Ji⟩)]⟩ Tryz.func124 λC=>?_;refine new_S C λb2 j C=>?_;obtain ⟨a5,k,N⟩:=obind N;refine ⟨λ_=>False,?_⟩;have e:=C;have a:=eX j;refine ⟨?_,?_⟩
 .refine Z8 ?_;refine kV f e.le 3 ?_;refine ce1 C (λs=>ZlI s.fle k slA) λl w xE C=>⟨_,rfl,eZ (a.trans xE),?_⟩
  replace a:=a.trans xE;refine ZfW C λx y xE C=>⟨eZ (a.trans xE),?_⟩
  replace a:=a.trans xE;refine Z9 ?_;refine kI f e.le 1 ?_;refine Z9 ?_;refine kI f e.le 2 ?_;exact wX
 .refine ZfW C λa2 a3 xE C=>⟨eZ (a.trans xE),?_⟩
  replace a:=a.trans xE;refine Z8 ?_;refine kV f e.le 3 ?_;refine ce1 C (λs=>ZlI s.fle k slA) λo a4 xE C=>⟨_,rfl,eZ (a.trans xE),?_⟩
  replace a:=a.trans xE;refine Z9 ?_;refine kI f e.le 1 ?_;refine Z9 ?_;refine kI f e.le 2 ?_;exact wX
theorem Zu3 {y0 p0 a6 l p1 a7 r} (N:ZeZ y0 l=Jg r) (a2:CellsC (hcell h) p0 [a6]) (j:sc h Zaf a6 y0.Items) (b3:CellsC (hcell h) p1 [.string l.Name,.int .i64 l.Object.Kind,.int .i64 l.Object.Size,a7,.string l.Key]) (b7:sc h eL a7 l.Object.Rows):CallsH P 61 #[.pointer (Jg p0),.pointer (Jg p1)] h (λv h'=>∃w0,v=.tuple #[.agg #[w0],.int .i64 r.2]/\S ψ h h' [.it (El.ow Zaf) [w0] r.1.Items]):=by
 refine zS hψ ⟨an [[6,45,48]],an [[11,315],[13,45],[16]],[],[(11,⟨kdL [0,2,0,3,3,4,0,4],.fin [2,3,4,0,1,5,6,7],Ji⟩),(13,⟨kdL [0,2,0,0,0,1,0,0,3,3,4,0,4],.fin (rgs [(2,8),(0,2),(10,3)]),Ji⟩),(15,⟨kdL [0,2,0,3,3,4,0,4],.fin [2,3,4,0,1,5,6,7],Ji⟩)]⟩ Tryz.func61 λC=>?_;refine new_S C λb4 bo C=>?_;refine kS b3 C.le 0 ?_;refine cm0 N C (λs hx=>ZIV s hx slA slA) λbp bq C N=>⟨_,rfl,?_⟩
 apply brQ N<;>intro N
 .exact wX
 .refine new_S C λb6 br C=>?_;refine boxA λbs C=>?_;have C:=C.nilO (E:=Zaf);refine lw22 N (λy7 y8 xs k=>([.box b6 [k],.box b4 [(.slice Jh 0 0)],.it (El.ow Zaf) [k] xs],y7,y8,xs)) λy7 y8 b5 xs k a C N O=>?_;refine kV a2 C.le 0 ?_;refine vL j C.le ?_;apply brQ N<;>intro N
  .refine kV a2 C.le 0 ?_;refine ixA slA N λbt bu ad ap N=>?_;obtain ⟨cs,ck,hr⟩:=j.cells ad ap rfl;obtain ⟨bv,rfl,f⟩:=ZaV hr;refine cm0 N C (λs hx=>ZpY s hx slA slA slA slA) λbw bx C N=>⟨_,rfl,?_⟩
   apply brQ N<;>intro N
   .exact wX
   .refine ⟨λa8 o=>∃u a9,S ψ h o [.box b6 [a9],.box b4 [(.slice Jh 0 0)],.it (El.ow Zaf) [a9] u]/\Zfh y0 y8 a8 u=Jg a,?_,?_⟩
    .refine ⟨λal w=>S ψ h w [.box b6 [k],.box b4 [(.slice Jh 0 0)],.it (El.ow Zaf) [k] xs]/\Zfi y0 l y7 y8 xs al=Jg a,?_,?_⟩
     .apply brQ N<;>intro N
      .refine kV a2 C.le 0 ?_;refine ixA slA N λbz c0 aq ar N=>?_;obtain ⟨b9,ba,au⟩:=j.cells aq ar rfl;obtain ⟨bb,rfl,c3⟩:=ZaV au;exact wX
      .exact wX
     .rintro _ al w ⟨C,N⟩;apply brQ N<;>intro N
      .refine ⟨λ_=>False,?_⟩;have aa:=C;have e:=eX w;obtain ⟨a3,av,N⟩:=obind N;refine ce1 C (λs=>Zri s.fle av slA slA) λc4 bc xE C=>⟨_,_,_,_,_,rfl,eZ (e.trans xE),?_⟩
       replace e:=e.trans xE;refine ZbL C λc5 bd xE C=>⟨eZ (e.trans xE),?_⟩
       replace e:=e.trans xE;refine Z8 ?_;refine ldV_K (aa.cells 0 rfl) 0 rfl rfl ?_;have C:=frA 1;have C:=C.copyF 1 rfl;have C:=pkf_T_impl_Item (x0:=a3.Name) (x1:=a3.Object.Kind) (x2:=a3.Object.Size) (x4:=a3.Key) C;obtain ⟨c6,aw,N⟩:=obind N;refine Zas C 4 rfl 0 rfl rfl rfl aw λc7 be xE C=>?_;exact wX
      .exact wX
    .rintro _ a8 o ⟨u,a9,C,N⟩;refine ⟨λ_=>False,?_⟩;have ab:=C;have g:=eX o;refine kV a2 C.le 0 ?_;refine ixA slA N λc8 c9 ax ay N=>?_;obtain ⟨bf,bg,az⟩:=j.cells ax ay rfl;obtain ⟨ca,rfl,cb⟩:=ZaV az;obtain ⟨a4,b0,N⟩:=obind N;refine ce1 C (λs=>Zri s.fle b0 slA slA) λcc bh xE C=>⟨_,_,_,_,_,rfl,eZ (g.trans xE),?_⟩
     replace g:=g.trans xE;refine ZbL C λcd bi xE C=>⟨eZ (g.trans xE),?_⟩
     replace g:=g.trans xE;refine Z8 ?_;refine ldV_K (ab.cells 0 rfl) 0 rfl rfl ?_;have C:=frA 1;have C:=C.copyF 1 rfl;have C:=pkf_T_impl_Item (x0:=a4.Name) (x1:=a4.Object.Kind) (x2:=a4.Object.Size) (x4:=a4.Key) C;obtain ⟨ce,b1,N⟩:=obind N;refine Zas C 4 rfl 0 rfl rfl rfl b1 λcf bj xE C=>?_;exact wX
  .refine ⟨λac=>∃x y,S ψ h ac [.box b6 [y],.box b4 [(.slice Jh 0 0)],.it (El.ow Zaf) [y] x]/\Zfl x=Jg a,?_,?_⟩
   .apply brQ N<;>intro N
    .refine ⟨λ_=>False,?_⟩;have ae:=C;have i:=eX b5;obtain ⟨a5,aj,N⟩:=obind N;refine ce1 C (λs=>Zri s.fle aj slA slA) λcg bk xE C=>⟨_,_,_,_,_,rfl,eZ (i.trans xE),?_⟩
     replace i:=i.trans xE;refine ZbL C λch bm xE C=>⟨eZ (i.trans xE),?_⟩
     replace i:=i.trans xE;refine Z8 ?_;refine ldV_K (ae.cells 0 rfl) 0 rfl rfl ?_;have C:=frA 1;have C:=C.copyF 1 rfl;have C:=pkf_T_impl_Item (x0:=a5.Name) (x1:=a5.Object.Kind) (x2:=a5.Object.Size) (x4:=a5.Key) C;obtain ⟨cj,ak,N⟩:=obind N;refine Zas C 4 rfl 0 rfl rfl rfl ak λcm bn xE C=>?_;exact wX
    .exact wX
   .rintro _ ac ⟨x,y,C,N⟩;exact wX
omit hψ in
instance k103:Kn 61 (type_of% @Zu3):=⟨@Zu3⟩
theorem Zwe {k e a f g budget3 r} (N:ZhS k a f budget3=Jg r) (a2:sc h Zaf e k.Items) (a3:sc h eL g f.Rows):CallsH P 21 #[.agg #[e],.string a,.agg #[.int .i64 f.Kind,.int .i64 f.Size,g],.int .i64 budget3] h (λv h'=>∃w0,v=.tuple #[.agg #[w0],.int .i64 r.2]/\S ψ h h' [.it (El.ow Zaf) [w0] r.1.Items]):=by
 refine zU [] [[3]] Tryz.func21 λC=>?_;refine new_S C λb4 ac C=>?_;refine new_S C λb6 ad C=>?_;refine new_S C λb8 ae C=>?_;refine ⟨λi=>S ψ h i [.box b8 [(.slice Jh 0 0)],.box b6 [.int .i64 f.Kind,.int .i64 f.Size,g],.box b4 [e]]/\ZdM k a f budget3=Jg r,?_,?_⟩
 .refine cl0 N C (λw _ _ l=>Zq2 w.fle l (C.cells 2 rfl) slA) λaf a7 C N=>⟨_,rfl,?_⟩
  apply brQ N<;>intro N
  .exact wX
  .refine cm0 N C (λs hx=>ZEr s hx) λag a9 C N=>⟨_,rfl,?_⟩
   apply brQ N<;>intro N
   .exact wX
   .obtain ⟨ah,o,N⟩:=obind N;obtain ⟨aa,ai,j,x⟩:=id C;refine (Ziy (CLe.refl _) o (C.cells 1 rfl) slA).mono λaj ab ⟨u,y⟩=>⟨_,u,?_⟩
    replace C:=join0 j x (y.weak j.fle);exact wX
 .rintro _ i ⟨C,N⟩;exact wX
omit hψ in
instance k104:Kn 21 (type_of% @Zwe):=⟨@Zwe⟩
end
theorem ZEl {ψ:CM} {o h:Heap} {os:List Ob} {j:Za} {u:Nat} {e:Jc} {f:Jl} {r:ZA×Za} (N:Zn7 j=Jg r) (C:S ψ o h (.box u (f::.int .i64 j.qat::.int .u64 j.qseed::e)::os)) (k:SlC (UB ψ o) (El.int .u8) f j.qcode):CallsH P 10 #[.pointer (Jg ⟨u,0,Jh⟩)] h (λv h'=>∃w0,v=.agg #[w0]/\S ψ o h' (.it (El.ow Zaf) [w0] r.1.Items::.box u (f::.int .i64 r.2.qat::.int .u64 r.2.qseed::e)::os)):=by
 refine zv ⟨an [[3,24]],[],[],[]⟩ Tryz.func10 ?_;refine new_S C λb2 ak C=>?_;refine new_S C λb3 al C=>?_;refine boxA λab C=>?_;have C:S ψ o ab (.box u (f::.int .i64 j.qat::.int .u64 j.qseed::e)::.box b3 [(.slice Jh 0 0)]::.box b2 [(.slice Jh 0 0)]::os):=pkT C 3 [2,0,1];obtain ⟨am,hx,N⟩:=obind N;obtain ⟨φ,L,s,y⟩:=id C;refine (ZQ hx (s.upS y) (k.mono s.ubU)).mono λao ap ⟨eq,t⟩=>⟨_,eq,?_⟩
 replace C:=s.downS t;clear t s y;have C:=C.nilO (E:=Zaf);obtain ⟨ac,hn⟩:=ZP N;refine ⟨λn k4 a2=>∃q l xs g,S ψ o a2 (.box u (f::.int .i64 q::.int .u64 l::e)::.box b3 [g]::.box b2 [(.slice Jh 0 0)]::.it (El.ow Zaf) [g] xs::os)/\loopN (ZqB j) n (k4,q,l,xs)=Jg r,⟨ac,_,_,_,_,pkT C 4 [1,2,3,0],hn⟩,?_⟩;rintro n _ k4 a2 ⟨q,l,xs,g,C,hn⟩;obtain ⟨m,a,rfl,N,O⟩:=ZN hn;apply brQ N<;>intro N
 .refine ZW (E:=El.str) (css:=[[.string ⟨#[97]⟩],[.string ⟨#[98,55]⟩],[.string ⟨#[102,97,110,111]⟩],[.string ⟨#[122,101,114,111]⟩],[.string ⟨#[109]⟩],[.string ⟨#[99,121,99]⟩]]) (xs:=([⟨#[97]⟩,⟨#[98,55]⟩,⟨#[102,97,110,111]⟩,⟨#[122,101,114,111]⟩,⟨#[109]⟩,⟨#[99,121,99]⟩]:List Jd)) C (λ_=>⟨[],[],rfl,⟨rfl,rfl⟩,⟨[],[],rfl,⟨rfl,rfl⟩,⟨[],[],rfl,⟨rfl,rfl⟩,⟨[],[],rfl,⟨rfl,rfl⟩,⟨[],[],rfl,⟨rfl,rfl⟩,⟨[],[],rfl,⟨rfl,rfl⟩,rfl⟩⟩⟩⟩⟩⟩) rfl rfl λad ae C=>?_;have C:=frA 0;have C:S ψ o ae (.box u (f::.int .i64 q::.int .u64 l::e)::.it (El.sl El.str) [ad] ([⟨#[97]⟩,⟨#[98,55]⟩,⟨#[102,97,110,111]⟩,⟨#[122,101,114,111]⟩,⟨#[109]⟩,⟨#[99,121,99]⟩]:List Jd)::.box b3 [g]::.box b2 [(.slice Jh 0 0)]::.it (El.ow Zaf) [g] xs::os):=pkT C 5 [1,0,2,3,4];obtain ⟨aq,a7,N⟩:=obind N;obtain ⟨ai,ar,i,w⟩:=id C;refine (ZMm a7 (i.upS w) (k.mono i.ubU) ((frF w 1 rfl).mono i.ubF)).mono λau av ⟨a8,a3⟩=>⟨_,a8,?_⟩
  replace C:=i.downS a3;clear a3 i w;obtain ⟨aw,a9,N⟩:=obind N;obtain ⟨aj,ax,x,af⟩:=id C;refine (ZMW a9 (x.upS af) (k.mono x.ubU)).mono λay az ⟨b1,aa,ag⟩=>⟨_,_,_,aa,?_⟩
  replace C:=x.downS ag;exact wX
 .exact wX
instance k105:Kn 10 (type_of% @ZEl):=⟨@ZEl⟩
section
variable {ψ:CM} {h:Heap} (hψ:CLe ψ (hcell h))
include hψ
theorem ZJq {a v0 r} (N:ZlW a=Jg r) (e:SlC ψ (El.int .u8) v0 a):CallsH P 5 #[v0] h (λv g=>∃w0,v=.agg #[w0]/\S ψ h g [.it (El.ow Zaf) [w0] r.Items]):=by
 refine zO Tryz.func5 λC=>?_;exact wX
theorem ZLk  {r} (N:Zlk=Jg r)  :zL 125 #[] h ψ El.str r:=by
 refine zO Tryz.func125 λC=>?_;refine ZW (E:=El.str) (css:=[[.string ⟨#[]⟩],[.string ⟨#[115,113,117,97,114,101]⟩],[.string ⟨#[100,101,115,105,103,110]⟩],[.string ⟨#[104,97,100,97,109,97,114,100]⟩],[.string ⟨#[97,114,114,97,121]⟩],[.string ⟨#[99,111,100,101]⟩],[.string ⟨#[103,114,97,112,104]⟩],[.string ⟨#[103,114,111,117,112]⟩]]) (xs:=([⟨#[]⟩,⟨#[115,113,117,97,114,101]⟩,⟨#[100,101,115,105,103,110]⟩,⟨#[104,97,100,97,109,97,114,100]⟩,⟨#[97,114,114,97,121]⟩,⟨#[99,111,100,101]⟩,⟨#[103,114,97,112,104]⟩,⟨#[103,114,111,117,112]⟩]:List Jd)) C (λ_=>⟨[],[],rfl,⟨rfl,rfl⟩,⟨[],[],rfl,⟨rfl,rfl⟩,⟨[],[],rfl,⟨rfl,rfl⟩,⟨[],[],rfl,⟨rfl,rfl⟩,⟨[],[],rfl,⟨rfl,rfl⟩,⟨[],[],rfl,⟨rfl,rfl⟩,⟨[],[],rfl,⟨rfl,rfl⟩,⟨[],[],rfl,⟨rfl,rfl⟩,rfl⟩⟩⟩⟩⟩⟩⟩⟩) rfl rfl λv1 a C=>?_;exact endS
theorem ZGb {o p0 u r} (N:Zj0 o=Jg r) (e:CellsC (hcell h) p0 [.int .i64 o.Kind,.int .i64 o.Size,u]) (f:sc h eL u o.Rows):zR 62 #[.pointer (Jg p0)] h ψ (.string r):=by
 refine zS hψ ⟨an [[5,20,24]],an [[9,20]],[(1,[6])],[(1,⟨kdL [3,0,0,0,2,0,3,0,0,0,0,2,3,0,0,0],.sg [0] (.both (.fin (rgs [(1,6),(8,5),(7,1),(13,3)])) (.fin (rgs [(8,5),(1,7),(13,3)]))),Ji⟩)]⟩ Tryz.func62 λC=>?_;obtain ⟨r5,v,N⟩:=obind N;obtain ⟨ar,i,N⟩:=obind N;obtain ⟨au,w,N⟩:=obind N;refine ⟨λ_=>False,?_⟩;have g:=C;have a:=eX h;refine ce1 C (λs=>ZLk s.fle v) λj av xE C=>⟨_,rfl,eZ (a.trans xE),?_⟩
 replace a:=a.trans xE;refine ⟨?_,?_⟩
 .refine Z9 ?_;refine kI e g.le 0 ?_;refine ZS slA i λac a3=>?_;refine ldS_C slA a3 i ?_;refine ⟨eZ a,?_⟩;refine Z9 ?_;refine kI e g.le 1 ?_;refine ce0 C (λs=>Zd6 s.fle w) λak xE C=>⟨_,rfl,eZ (a.trans xE),?_⟩
  replace a:=a.trans xE;refine gfA N λN=>?_;refine gfA N λN=>?_;refine gfA N λN=>?_;refine kV e C.le 2 ?_;refine vL f C.le ?_;apply brQ N<;>intro N
  .refine gfA N λN=>?_;exact tZ
  .refine lp2 (os:=[.it (El.ow El.str) [j] r5]) N (pk C [0]) λaw a8 a4 al a9 C N O=>?_;refine kV e C.le 2 ?_;refine vL f C.le ?_;apply brQ N<;>intro N
   .refine ⟨λk x=>S ψ h x [.it (El.ow El.str) [j] r5]/\Zgg o a4 k=Jg a9,?_,?_⟩
    .apply brQ N<;>intro N
     .refine gfA N λN=>?_;exact endC
     .exact endC
    .rintro _ k x ⟨C,N⟩;refine kV e C.le 2 ?_;refine ixV f C.le N λad ae ax N=>?_;refine cm0 N C (λs v=>ZpW s v slA) λaf am C N=>⟨_,rfl,?_⟩
     refine gfA N λN=>?_;exact endL
   .exact endX
 .refine Z9 ?_;refine kI e g.le 1 ?_;refine ce0 C (λs=>Zd6 s.fle w) λao xE C=>⟨_,rfl,eZ (a.trans xE),?_⟩
  replace a:=a.trans xE;refine Z9 ?_;refine kI e g.le 0 ?_;refine ZS slA i λag a5=>?_;refine ldS_C slA a5 i ?_;refine ⟨eZ a,?_⟩;refine gfA N λN=>?_;refine gfA N λN=>?_;refine gfA N λN=>?_;refine kV e C.le 2 ?_;refine vL f C.le ?_;apply brQ N<;>intro N
  .refine gfA N λN=>?_;exact tZ
  .refine lp2 (os:=[.it (El.ow El.str) [j] r5]) N (pk C [0]) λay aa a6 ap ab C N O=>?_;refine kV e C.le 2 ?_;refine vL f C.le ?_;apply brQ N<;>intro N
   .refine ⟨λl y=>S ψ h y [.it (El.ow El.str) [j] r5]/\Zgg o a6 l=Jg ab,?_,?_⟩
    .apply brQ N<;>intro N
     .refine gfA N λN=>?_;exact endC
     .exact endC
    .rintro _ l y ⟨C,N⟩;refine kV e C.le 2 ?_;refine ixV f C.le N λah ai az N=>?_;refine cm0 N C (λs v=>ZpW s v slA) λaj aq C N=>⟨_,rfl,?_⟩
     refine gfA N λN=>?_;exact endL
   .exact endX
theorem ZCe {a x1 r} (N:Zgs a x1=Jg r)  :zR 63 #[.string a,.int .i64 x1] h ψ (.int .i64 r):=by
 refine zT [[2,6,30],[6,6,36]] Tryz.func63 λC=>?_;exact wX
omit hψ in
instance k106:Kn 63 (type_of% @ZCe):=⟨@ZCe⟩
theorem ZG3 {x0 g e r} (N:Znr x0=Jg r) (i:CellsC (hcell h) g [.string x0.Name,.int .i64 x0.Object.Kind,.int .i64 x0.Object.Size,e,.string x0.Key]) (j:sc h eL e x0.Object.Rows):zR 25 #[.pointer (Jg g)] h ψ (.string r):=by
 refine zS hψ ⟨[],[],[],[(1,⟨kdL [0,0,0,2,0,0,0,0,3,0,0],.fin [5,6,7,8,0,1,2,3,4,9,10],Ji⟩)]⟩ Tryz.func25 λC=>?_;refine ⟨λ_=>False,?_⟩;have f:=C;have a:=eX h;obtain ⟨l,k,N⟩:=obind N;refine ce0 C (λs=>ZGb s.fle k (CellsC.part 1 3 slA) slA) λo u C=>⟨_,rfl,eZ (a.trans u),?_⟩
 replace a:=a.trans u;refine Zpl ?_;refine kS i f.le 0 ?_;refine gfA N λN=>?_;refine gfA N λN=>?_;refine gfA N λN=>?_;exact wX
theorem ZA0 {l o g r} (N:Znv l=Jg r) (i:CellsC (hcell h) o [g]) (e:sc h Zaf g l.Items):zR 12 #[.pointer (Jg o)] h ψ (.string r):=by
 refine zT [[3,20,24]] Tryz.func12 λC=>?_;refine kV i C.le 0 ?_;refine vL e C.le ?_;refine cm0 N C (λs j=>Zd6 s j) λw x C N=>⟨_,rfl,?_⟩
 refine gfA N λN=>?_;refine gfA N λN=>?_;refine lp2 N (nlS C) λm u i4 y a C N O=>?_;refine kV i C.le 0 ?_;refine vL e C.le ?_;refine brY λN=>?_;refine kV i C.le 0 ?_;refine ixA slA N λa2 a3 v k N=>?_;obtain ⟨cs,ck,hr⟩:=e.cells v k rfl;obtain ⟨a4,rfl,f⟩:=ZaV hr;refine cm0 N C (λs j=>ZG3 s j slA slA) λa5 a6 C N=>⟨_,rfl,?_⟩
 refine gfA N λN=>?_;refine gfA N λN=>?_;exact tZ
omit hψ in
instance k107:Kn 12 (type_of% @ZA0):=⟨@ZA0⟩
theorem ZLQ {e a r} (N:Zia e=Jg r) (f:sc h Zaf a e.Items):zR 6 #[.agg #[a]] h ψ (.tuple #[.string r.1,.int .i64 r.2]):=by
 refine zO Tryz.func6 λC=>?_;exact wX
theorem Zq5 {a v0 k1 n2 r} (N:Zfj a k1 n2=Jg r) (f:sc h (El.int .u8) v0 a):zR 7 #[v0,.int .i64 k1,.int .i64 n2] h ψ (.int .i64 r):=by
 refine zU [] [[3]] Tryz.func7 λC=>?_;refine ⟨λe=>S ψ h e []/\ZqI a k1 n2=Jg r,?_,?_⟩
 .exact wX
 .rintro _ e ⟨C,N⟩;exact wX
theorem Zgj {n0 e a r} (N:ZV n0 e a=Jg r)  :zR 26 #[.int .i64 n0,.int .i64 e,.int .i64 a] h ψ (.bool r):=by
 refine zO Tryz.func26 λC=>?_;exact wX
omit hψ in
instance k108:Kn 26 (type_of% @Zgj):=⟨@Zgj⟩
theorem Zr5 {n0 r} (N:ZfC n0=Jg r)  :zR 13 #[.int .i64 n0] h ψ (.bool r):=by
 refine zO Tryz.func13 λC=>?_;exact wX
theorem Zzx {a suffix1 r} (N:Zd4 a suffix1=Jg r)  :zR 64 #[.string a,.string suffix1] h ψ (.bool r):=by
 refine zO Tryz.func64 λC=>?_;exact wX
omit hψ in
instance k109:Kn 64 (type_of% @Zzx):=⟨@Zzx⟩
theorem ZLv {a suffix1 r} (N:Zg9 a suffix1=Jg r)  :zR 27 #[.string a,.string suffix1] h ψ (.bool r):=by
 refine zO Tryz.func27 λC=>?_;exact wX
theorem Zod {e a r} (N:Zbb e a=Jg r) (g:LayH 3 [0] [1,2] h):zL 28 #[.string e,.string a] h ψ El.str r:=by
 unfold Zbb at N;split at N
 .rename_i f;obtain rfl:=oI N;exact ZNz Tryz.splitL κ hψ f.1 f.2 (g.2.1 0 (by decide))
 .cases N
theorem ZyU {a suffix1 r} (N:Zp8 a suffix1=Jg r)  :zR 66 #[.string a,.string suffix1] h ψ (.string r):=by
 refine zO Tryz.func66 λC=>?_;exact wX
omit hψ in
instance k110:Kn 66 (type_of% @ZyU):=⟨@ZyU⟩
theorem ZHT {a suffix1 r} (N:Zlg a suffix1=Jg r)  :zR 29 #[.string a,.string suffix1] h ψ (.string r):=by
 refine zO Tryz.func29 λC=>?_;exact wX
theorem ZDy {a prefix1 r} (N:ZnB a prefix1=Jg r)  :zR 132 #[.string a,.string prefix1] h ψ (.bool r):=by
 refine zO Tryz.func132 λC=>?_;exact wX
omit hψ in
instance k111:Kn 132 (type_of% @ZDy):=⟨@ZDy⟩
theorem Zvk {a prefix1 r} (N:ZnC a prefix1=Jg r)  :zR 68 #[.string a,.string prefix1] h ψ (.string r):=by
 refine zO Tryz.func68 λC=>?_;exact wX
omit hψ in
instance k112:Kn 68 (type_of% @Zvk):=⟨@Zvk⟩
theorem Zx1 {a prefix1 r} (N:ZcB a prefix1=Jg r)  :zR 31 #[.string a,.string prefix1] h ψ (.string r):=by
 refine zO Tryz.func31 λC=>?_;exact wX
end
theorem ZCg {ψ:CM} {h:Heap} (hψ:CLe ψ (hcell h)) {e a:Int} {r:Jd} (N:Zke e a=Jg r) (j:LayH 3 [0] [1,2] h):CallsH P 69 #[.int .i64 e,.int .i64 a] h (λv l=>v=.string r/\S ψ h l []):=by
  unfold Zke at N;split at N
  . rename_i f;obtain rfl:=oI N;obtain ⟨rfl,g,h1⟩:=f;exact fmt_H hψ λw k=>Go.Proofs.Any.strconv_FormatInt_10 Tryz.fmtM _ g h1 w (TabH.tab κ (k▸j.1))
  . cases N
instance k113:Kn 69 (type_of% @ZCg):=⟨@ZCg⟩
section
variable {ψ:CM} {h:Heap} (hψ:CLe ψ (hcell h))
include hψ
theorem ZdA {n0 r} (N:ZbE n0=Jg r) (hL:LayH 3 [0] [1,2] h):zR 32 #[.int .i64 n0] h ψ (.string r):=by
 refine zO Tryz.func32 λC=>?_;exact wX
omit hψ in
instance k114:Kn 32 (type_of% @ZdA):=⟨@ZdA⟩
theorem ZnF {f r} (N:Zem f=Jg r) (hL:LayH 3 [0] [1,2] h):zR 30 #[.string f] h ψ (.tuple #[.int .i64 r.1,.bool r.2]):=by
 refine zU [] [[4]] Tryz.func30 λC=>?_;obtain ⟨r8,j,N⟩:=obind N;obtain ⟨φ,L,s,a⟩:=id C;refine (Zx1 s.fle j).mono λk l ⟨eq,t⟩=>⟨_,eq,?_⟩
 replace C:=join0 s a t;clear t s a;refine ⟨λhh=>S ψ h hh []/\((gPars f).bind λq=>Zer f q)=Jg r,?_,?_⟩
 .exact wX
 .rintro _ o ⟨C,N⟩;obtain ⟨q,g,N⟩:=obind N;unfold gPars at g;split at g
  .rename_i O;obtain rfl:=oI g;obtain ⟨φ,L,s,a⟩:=id C;refine (ZKR Tryz.parseL s.fle O ((hL.ext s.ext).2.2 1 (by decide)) ((hL.ext s.ext).2.2 2 (by decide))).mono λu v ⟨⟨n,e,eq,c⟩,t⟩=>⟨_,_,eq,?_⟩
   replace C:=join0 s a t;clear t s a;rcases c with ⟨rfl,hok⟩|⟨⟨t,x,rfl⟩,hno⟩
   .rw [ZvS hok,Zer] at N;obtain ⟨w,i,N⟩:=obind N;obtain ⟨φ,L,s,a⟩:=id C;refine (ZdA s.fle i (hL.ext s.ext)).mono λy a2 ⟨eq,t⟩=>⟨_,eq,?_⟩
    replace C:=join0 s a t;exact wX
   .rw [ZEo hno,Zer] at N;exact wX
  .cases g
omit hψ in
instance k115:Kn 30 (type_of% @ZnF):=⟨@ZnF⟩
theorem ZDO {a v0 r} (N:Zg4 a=Jg r) (e:sc h El.str v0 a):zR 33 #[v0] h ψ (.int .i64 r):=by
 refine zO Tryz.func33 λC=>?_;exact wX
theorem ZG7 {s0 r} (N:ZbJ s0=Jg r) (hL:LayH 3 [0] [1,2] h):CallsH P 14 #[.string s0] h (λv h'=>∃w0,v=.tuple #[w0,.int .i64 r.2]/\S ψ h h' [.it (El.ow El.str) [w0] r.1]):=by
 refine zS hψ ⟨[],an [[6,129]],[],[(5,⟨kdL [0,0,0,0,3,0,0,0,0,0,2,0,3,0,0,0,0],.fin (rgs [(0,8),(11,2),(8,3),(13,4)]),Ji⟩)]⟩ Tryz.func14 λC=>?_;refine cm0 N C (λs e=>ZLv s e) λr8 aa C N=>⟨_,rfl,?_⟩
 apply brQ N<;>intro N
 .exact wX
 .refine cm0 N C (λs e=>ZHT s e) λab ac C N=>⟨_,rfl,?_⟩
  refine cl1 N C (λk _ _ x=>Zod k.fle x (hL.ext k.ext)) λl a5 ad C N=>⟨_,rfl,?_⟩
  refine ixS slA N λae N=>?_;refine cm0 N C (λs e=>Zx1 s e) λaf ag C N=>⟨_,rfl,?_⟩
  refine cl0 N C (λo _ _ y=>ZnF o.fle y (hL.ext o.ext)) λa6 a7 C N=>⟨_,_,rfl,?_⟩
  refine ⟨λu w=>S ψ h w [.it (El.ow El.str) [a5] l]/\Zep l a6 u=Jg r,?_,?_⟩
  .refine ⟨λ_=>False,?_⟩;have f:=C;have a:=eX a7;apply brQ N<;>intro N
   .exact wX
   .obtain ⟨ah,g,N⟩:=obind N;refine ce0 C (λs=>Zgj s.fle g) λa8 xE C=>⟨_,rfl,eZ (a.trans xE),?_⟩
    replace a:=a.trans xE;apply brQ N<;>intro N
    .exact wX
    .obtain ⟨ai,i,N⟩:=obind N;refine ce0 C (λs=>ZdA s.fle i (hL.ext s.ext)) λa9 xE C=>⟨_,rfl,eZ (a.trans xE),?_⟩
     replace a:=a.trans xE;refine ixA slA N λaj ak a2 j N=>?_;refine Zpl ?_;refine ldS_C (f.rdL 0 rfl Zft) a2 j ?_;exact wX
  .rintro _ u w ⟨C,N⟩;apply brQ N<;>intro N
   .exact wX
   .refine cm0 N C (λs e=>ZDO s e slA) λal am C N=>⟨_,rfl,?_⟩
    apply brQ N<;>intro N
    .exact wX
    .refine cm0 N C (λs e=>ZDO s e slA) λao ap C N=>⟨_,rfl,?_⟩
     apply brQ N<;>intro N
     .exact wX
     .obtain ⟨aq,a3,N⟩:=obind N;refine cut_S (Jg 1) Jh C 0 rfl a3 rfl λar C=>?_;exact wX
theorem ZDl {a c1 r} (N:Zm9 a c1=Jg r)  :zR 70 #[.string a,.int .u8 c1] h ψ (.int .i64 r):=by
 refine zT [[2,30]] Tryz.func70 λC=>?_;exact wX
omit hψ in
instance k116:Kn 70 (type_of% @ZDl):=⟨@ZDl⟩
theorem ZJe {a c1 r} (N:Zfg a c1=Jg r)  :zR 34 #[.string a,.int .u8 c1] h ψ (.int .i64 r):=by
 refine zO Tryz.func34 λC=>?_;exact wX
theorem Zzv {a start1 r} (N:Ze1 a start1=Jg r)  :zR 35 #[.string a,.int .i64 start1] h ψ (.int .i64 r):=by
 refine zT [[5,30,90],[9,30,144]] Tryz.func35 λC=>?_;exact wX
omit hψ in
instance k117:Kn 35 (type_of% @Zzv):=⟨@Zzv⟩
theorem ZLg {e a r} (N:Zg1 e a=Jg r) (g:LayH 3 [0] [1,2] h):zR 36 #[.string e,.string a] h ψ (.tuple #[.string r.1,.string r.2.1,.bool r.2.2]):=by
 unfold Zg1 at N;split at N
 .rename_i f;obtain rfl:=oI N;exact cut_H Tryz.cutL hψ f (g.2.1 0 (by decide))
 .cases N
theorem ZDi {a v0 v1 r} (N:Zp5 a v1=Jg r) (e:sc h El.str v0 a):zR 135 #[v0,.string v1] h ψ (.int .i64 r):=by
 refine zT [[2,48]] Tryz.func135 λC=>?_;exact wX
omit hψ in
instance k118:Kn 135 (type_of% @ZDi):=⟨@ZDi⟩
theorem ZvH  {r} (N:Zih=Jg r)  :zL 136 #[] h ψ El.str r:=by
 refine zO Tryz.func136 λC=>?_;refine ZW (E:=El.str) (css:=[[.string ⟨#[115,113,117,97,114,101]⟩],[.string ⟨#[100,101,115,105,103,110]⟩],[.string ⟨#[104,97,100,97,109,97,114,100]⟩],[.string ⟨#[97,114,114,97,121]⟩],[.string ⟨#[99,111,100,101]⟩],[.string ⟨#[103,114,97,112,104]⟩],[.string ⟨#[103,114,111,117,112]⟩]]) (xs:=([⟨#[115,113,117,97,114,101]⟩,⟨#[100,101,115,105,103,110]⟩,⟨#[104,97,100,97,109,97,114,100]⟩,⟨#[97,114,114,97,121]⟩,⟨#[99,111,100,101]⟩,⟨#[103,114,97,112,104]⟩,⟨#[103,114,111,117,112]⟩]:List Jd)) C (λ_=>⟨[],[],rfl,⟨rfl,rfl⟩,⟨[],[],rfl,⟨rfl,rfl⟩,⟨[],[],rfl,⟨rfl,rfl⟩,⟨[],[],rfl,⟨rfl,rfl⟩,⟨[],[],rfl,⟨rfl,rfl⟩,⟨[],[],rfl,⟨rfl,rfl⟩,⟨[],[],rfl,⟨rfl,rfl⟩,rfl⟩⟩⟩⟩⟩⟩⟩) rfl rfl λv1 a C=>?_;exact endS
omit hψ in
instance k119:Kn 136 (type_of% @ZvH):=⟨@ZvH⟩
theorem ZNa {a r} (N:Zg8 a=Jg r)  :zR 72 #[.string a] h ψ (.tuple #[.int .i64 r.1,.bool r.2]):=by
 refine zO Tryz.func72 λC=>?_;exact wX
end
theorem ZAu {ψ:CM} {h:Heap} (hψ:CLe ψ (hcell h)) {x0:List Jd} {v0:Jl} {s1:Jd} {r:Jd} (N:Zeu x0 s1=Jg r) (e:sc h El.str v0 x0):CallsH P 150 #[v0,.string s1] h (λv g=>v=.string r/\S ψ h g []):=by
  unfold Zeu at N;split at N
  . rename_i a;obtain rfl:=oI N;exact ZGx Tryz.joinL Tryz.joinL_x hψ e a.1 a.2
  . cases N
instance k120:Kn 150 (type_of% @ZAu):=⟨@ZAu⟩
section
variable {ψ:CM} {h:Heap} (hψ:CLe ψ (hcell h))
include hψ
theorem ZE5 {j:Jb} {v0:Jl} {f:Int->Jm Bool} {g:Nat} {e:Jc} {r:Int} (N:Zn8 j f=Jg r) (u:sc h eI v0 j) (w:ctx.okf g=Ji) (k1:∀{h1:Heap},ExtH h h1->∀{ψ1:CM},CLe ψ1 (hcell h1)->∀{k:Int} {l:Bool},f k=Jg l->CallsH P g (([.int .i64 k]:Jc)++e).toArray h1 (λv h'=>v=.bool l/\S ψ1 h1 h' [])):zR 276 #[v0,.func (.func g) #[] e.toArray] h ψ (.int .i64 r):=by
 refine zT [[2,48]] Tryz.func276 λC=>?_;refine vL u C.le ?_;refine lp1 N (nlS C) λm y8 x a C N O=>?_;refine brY λN=>?_;refine ixI slA N λy N=>?_;obtain ⟨a2,i,N⟩:=obind N;obtain ⟨φ,L,s,o⟩:=id C;refine Zb9 w ?_;refine (k1 C.ext s.fle i).mono λa3 a4 ⟨eq,t⟩=>⟨_,eq,?_⟩
 replace C:=join0 s o t;exact wX
theorem Zfb {g:Jb} {v0:Jl} {e:Int->Jm Bool} {f:Nat} {a:Jc} {r:Bool} (N:ZaX g e=Jg r) (w:sc h eI v0 g) (l:ctx.okf f=Ji) (k1:∀{h1:Heap},ExtH h h1->∀{ψ1:CM},CLe ψ1 (hcell h1)->∀{i:Int} {j:Bool},e i=Jg j->CallsH P f (([.int .i64 i]:Jc)++a).toArray h1 (λv h'=>v=.bool j/\S ψ1 h1 h' [])):zR 215 #[v0,.func (.func f) #[] a.toArray] h ψ (.bool r):=by
 refine zO Tryz.func215 λC=>?_;refine cl0 N C (λs _ _ o=>ZE5 s.fle o slA l (λk=>k1 (C.ext.trans k))) λx u C N=>⟨_,rfl,?_⟩
 exact tZ
theorem ZIb {n0 r} (N:Zfd n0=Jg r)  :zR 216 #[.int .i64 n0] h ψ (.bool r):=by
 refine zO Tryz.func216 λC=>?_;exact wX
theorem Zpy {a v0 r} (N:ZeN a=Jg r) (f:sc h eI v0 a) (hL:LayH 3 [0] [1,2] h):zR 137 #[v0] h ψ (.string r):=by
 refine zU [[7,19,108]] [[3]] Tryz.func137 λC=>?_;refine ⟨λe=>S ψ h e []/\ZnT a=Jg r,?_,?_⟩
 .refine vL f C.le ?_;refine brZ λN=>?_;refine cl0 N C (λj _ _ g=>Zfb j.fle g slA κ (λl=>λi=>λk  =>ZIb i k )) λo s C N=>⟨_,rfl,?_⟩
  exact wX
 .rintro _ e ⟨C,N⟩;refine vL f C.le ?_;refine brZ λN=>?_;refine vL f C.le ?_;have C:=C.nilO (E:=El.str);exact wX
omit hψ in
instance k121:Kn 137 (type_of% @Zpy):=⟨@Zpy⟩
theorem ZyX {a r} (N:Zk0 a=Jg r) (hL:LayH 3 [0] [1,2] h):CallsH P 73 #[.string a] h (λv k=>∃w0,v=.tuple #[w0,.bool r.2]/\S ψ h k [.it oL [w0] r.1]):=by
 refine zT [[5,25,84]] Tryz.func73 λC=>?_;apply brQ N<;>intro N
 .exact wX
 .refine cl1 N C (λs _ _ e=>Zod s.fle e (hL.ext s.ext)) λf g i C N=>⟨_,rfl,?_⟩
  refine ZF slA ?_;have C:=C.nilO (E:=eI);exact wX
omit hψ in
instance k122:Kn 73 (type_of% @ZyX):=⟨@ZyX⟩
theorem ZdK {a v0 r} (N:Z0 a=Jg r) (e:sc h eL v0 a):zR 138 #[v0] h ψ (.int .i64 r):=by
 refine zO Tryz.func138 λC=>?_;exact wX
omit hψ in
instance k123:Kn 138 (type_of% @ZdK):=⟨@ZdK⟩
theorem ZxP {l:Ja} {v0:Jl} {i:Jb->Jm Bool} {j:Nat} {e:Jc} {r:Int} (N:Zjq l i=Jg r) (o:sc h eL v0 l) (y:ctx.okf j=Ji) (k1:∀{h1:Heap},ExtH h h1->∀{ψ1:CM},CLe ψ1 (hcell h1)->∀{u:Jb} {g:Jl} {w:Bool},i u=Jg w->SlC (hcell h1) eI g u->CallsH P j (([g]:Jc)++e).toArray h1 (λv h'=>v=.bool w/\S ψ1 h1 h' [])):zR 289 #[v0,.func (.func j) #[] e.toArray] h ψ (.int .i64 r):=by
 refine zT [[2,48]] Tryz.func289 λC=>?_;refine vL o C.le ?_;refine lp1 N (nlS C) λm y8 a2 a C N O=>?_;refine brY λN=>?_;refine ixV o C.le N λa3 a4 f N=>?_;obtain ⟨a5,k,N⟩:=obind N;obtain ⟨φ,L,s,x⟩:=id C;refine Zb9 y ?_;refine (k1 C.ext s.fle k slA).mono λa6 a7 ⟨eq,t⟩=>⟨_,eq,?_⟩
 replace C:=join0 s x t;exact wX
theorem ZrM {i:Ja} {v0:Jl} {f:Jb->Jm Bool} {g:Nat} {a:Jc} {r:Bool} (N:Zgq i f=Jg r) (x:sc h eL v0 i) (o:ctx.okf g=Ji) (k1:∀{h1:Heap},ExtH h h1->∀{ψ1:CM},CLe ψ1 (hcell h1)->∀{j:Jb} {e:Jl} {k:Bool},f j=Jg k->SlC (hcell h1) eI e j->CallsH P g (([e]:Jc)++a).toArray h1 (λv h'=>v=.bool k/\S ψ1 h1 h' [])):zR 277 #[v0,.func (.func g) #[] a.toArray] h ψ (.bool r):=by
 refine zO Tryz.func277 λC=>?_;refine cl0 N C (λs _ _ u=>ZxP s.fle u slA o (λl=>k1 (C.ext.trans l))) λy w C N=>⟨_,rfl,?_⟩
 exact tZ
theorem Zha {a0 v0 r} (N:Zb1 a0=Jg r) (a:sc h eI v0 a0):zL 279 #[v0] h ψ eI r:=by
 refine zO Tryz.func279 λC=>?_;refine ZAY a (λf e=>?_) ?_
 .subst e;exact wX
 .refine ZW (E:=eI) (css:=[]) (xs:=[]) C (λ_=>rfl) rfl rfl λv1 h1 C=>?_;refine app_S C 0 rfl (ZdE (Zcy _) slA) rfl rfl N λg i C=>?_;exact wX
omit hψ in
instance k124:Kn 279 (type_of% @Zha):=⟨@Zha⟩
end
theorem ZnA {ψ:CM} {a h:Heap} {os:List Ob} {x0:Jb} {v0:Jl} {r:Jb} (N:Zc1 x0=Jg r) (C:S ψ a h (.it oL [v0] x0::os)):CallsH P 280 #[v0] h (λv g=>v=.tuple #[]/\S ψ a g (.it oL [v0] r::os)):=by
  unfold Zc1 at N;split at N
  . rename_i e;obtain rfl:=oI N;exact ZHy Tryz.sortM C e
  . cases N
section
variable {ψ:CM} {h:Heap} (hψ:CLe ψ (hcell h))
include hψ
theorem ZwJ {g v0 r} (N:Zh2 g=Jg r) (x:sc h eI v0 g):zR 218 #[v0] h ψ (.bool r):=by
 refine zT [[4,72]] Tryz.func218 λC=>?_;refine cm1 N C (λs k=>Zha s k slA) λy v7 o C N=>⟨_,rfl,?_⟩
 obtain ⟨r9,e,N⟩:=obind N;obtain ⟨l,u,a,i⟩:=id C;refine (ZnA e (a.upS i) ).mono λv w ⟨f,j⟩=>⟨f,?_⟩
 replace C:=a.downS j;exact wX
omit hψ in
instance k125:Kn 218 (type_of% @ZwJ):=⟨@ZwJ⟩
theorem Zk4 {a v0 r} (N:Z1 a=Jg r) (e:sc h eI v0 a):zR 223 #[v0] h ψ (.int .i64 r):=by
 refine zO Tryz.func223 λC=>?_;exact wX
omit hψ in
instance k126:Kn 223 (type_of% @Zk4):=⟨@Zk4⟩
theorem ZO3 {a v0 e p1 r} (N:ZpL a e=Jg r) (g:sc h eI v0 a) (f:CellsC (hcell h) p1 [.int .i64 e]):zR 278 #[v0,.pointer (Jg p1)] h ψ (.bool r):=by
 refine zS hψ ⟨[],[],[],[(1,⟨kdL [0,3,2,0,0,0,4,0,0,0],.fin (rgs [(0,10)]),Ji⟩)]⟩ Tryz.func278 λC=>?_;exact wX
theorem ZEg {degree0 a v1 r} (N:Zic degree0 a=Jg r) (o:sc h eL v1 a):zR 217 #[.int .i64 degree0,v1] h ψ (.bool r):=by
 refine zO Tryz.func217 λC=>?_;refine new_S C λu k C=>?_;refine cl0 N C (λs _ _ j=>ZrM s.fle j slA κ (λf=>λe=>λg i=>ZO3 e g i ((C.cells 0 rfl).mono (CLe.ext f)))) λv l C N=>⟨_,rfl,?_⟩
 exact tZ
omit hψ in
instance k127:Kn 217 (type_of% @ZEg):=⟨@ZEg⟩
theorem Zpf {a0 v0 r} (N:Zjb a0=Jg r) (f:sc h eL v0 a0):zR 139 #[v0] h ψ (.bool r):=by
 refine zU [[5,120],[9,31,150]] [[4]] Tryz.func139 λC=>?_;refine cm0 N C (λs g=>ZdK s g slA) λr8 i C N=>⟨_,rfl,?_⟩
 refine ⟨λe=>S ψ h e []/\Zq1 a0=Jg r,?_,?_⟩
 .exact wX
 .rintro _ e ⟨C,N⟩;refine vL f C.le ?_;refine lp1 N (nlS C) λm j k a C N O=>?_;refine brY λN=>?_;refine vL f C.le ?_;have C:=C.nilO (E:=eI);exact wX
omit hψ in
instance k128:Kn 139 (type_of% @Zpf):=⟨@Zpf⟩
theorem ZyK {a v0 n1 r} (N:ZnW a n1=Jg r) (e:sc h eI v0 a):zR 319 #[v0,.int .i64 n1] h ψ (.bool r):=by
 refine zT [[3,30,60]] Tryz.func319 λC=>?_;exact wX
omit hψ in
instance k129:Kn 319 (type_of% @ZyK):=⟨@ZyK⟩
theorem ZvE {block0 v0 points1 r} (N:ZnS block0 points1=Jg r) (a:sc h eI v0 block0):zR 282 #[v0,.int .i64 points1] h ψ (.bool r):=by
 refine zO Tryz.func282 λC=>?_;exact wX
omit hψ in
instance k130:Kn 282 (type_of% @ZvE):=⟨@ZvE⟩
theorem ZGi {a v0 e p1 r} (N:ZjQ a e=Jg r) (g:sc h eI v0 a) (f:CellsC (hcell h) p1 [.int .i64 e]):zR 281 #[v0,.pointer (Jg p1)] h ψ (.bool r):=by
 refine zO Tryz.func281 λC=>?_;exact wX
theorem ZOU {blocks0 v0 points1 r} (N:Zsv blocks0 points1=Jg r) (w:sc h eL v0 blocks0):zR 219 #[v0,.int .i64 points1] h ψ (.bool r):=by
 refine zO Tryz.func219 λC=>?_;refine new_S C λx l C=>?_;refine bI C 0 0 ?_;refine cm0 N C (λs k=>Zgj s k) λy o C N=>⟨_,rfl,?_⟩
 refine brY λN=>?_;refine cl0 N C (λf _ _ a=>ZrM f.fle a slA κ (λg=>λe=>λi j=>ZGi e i j ((C.cells 0 rfl).mono (CLe.ext g)))) λu v C N=>⟨_,rfl,?_⟩
 exact tZ
theorem ZGU {x0:Ja} {v0:Jl} {j:Jb->Jb->Jm Int} {k:Nat} {e:Jc} {r:Bool} (N:ZmT x0 j=Jg r) (l:sc h eL v0 x0) (o1:ctx.okf k=Ji) (k1:∀{h1:Heap},ExtH h h1->∀{ψ1:CM},CLe ψ1 (hcell h1)->∀{u:Jb} {g:Jl} {w:Jb} {i:Jl} {x:Int},j u w=Jg x->SlC (hcell h1) eI g u->SlC (hcell h1) eI i w->CallsH P k (([g,i]:Jc)++e).toArray h1 (λv h'=>v=.int .i64 x/\S ψ1 h1 h' [])):zR 220 #[v0,.func (.func k) #[] e.toArray] h ψ (.bool r):=by
 refine zT [[2,30]] Tryz.func220 λC=>?_;refine vL l C.le ?_;refine lp1 N (nlS C) λm i5 a3 a C N O=>?_;refine brY λN=>?_;refine ixV l C.le N λa4 a5 f N=>?_;refine ixV l C.le N λa6 a7 a8 N=>?_;obtain ⟨a9,o,N⟩:=obind N;obtain ⟨φ,L,s,y⟩:=id C;refine Zb9 o1 ?_;refine (k1 C.ext s.fle o slA slA).mono λaa ab ⟨eq,t⟩=>⟨_,eq,?_⟩
 replace C:=join0 s y t;exact wX
theorem ZCJ {x0 r} (N:Zdj x0=Jg r)  :zR 320 #[.int .i64 x0] h ψ (.bool r):=by
 refine zO Tryz.func320 λC=>?_;exact tZ
omit hψ in
instance k131:Kn 320 (type_of% @ZCJ):=⟨@ZCJ⟩
theorem Zmt {x0 a r} (N:ZbG x0 a=Jg r)  :zR 283 #[.int .i64 x0,.int .i64 a] h ψ (.int .i64 r):=by
 refine zO Tryz.func283 λC=>?_;exact wX
omit hψ in
instance k132:Kn 283 (type_of% @Zmt):=⟨@Zmt⟩
theorem Zfa {a v0 s1 v1 r} (N:Zam a s1=Jg r) (e:sc h eI v0 a) (f:sc h eI v1 s1):zR 221 #[v0,v1] h ψ (.int .i64 r):=by
 refine zT [[2,66]] Tryz.func221 λC=>?_;exact wX
omit hψ in
instance k133:Kn 221 (type_of% @Zfa):=⟨@Zfa⟩
theorem Zz5 {e a r} (N:Zhj e=Jg r) (f:sc h eL a e.Blocks):zR 140 #[.agg #[.int .i64 e.Points,a]] h ψ (.bool r):=by
 refine zO Tryz.func140 λC=>?_;refine new_S C λb1 v C=>?_;refine lsA ?_;refine cm0 N C (λs u=>ZOU s u slA) λr7 w C N=>⟨_,rfl,?_⟩
 refine brY λN=>?_;refine bV C 0 1 ?_;refine vL f C.le ?_;refine brY λN=>?_;refine bV C 0 1 ?_;refine cl0 N C (λj _ _ g=>ZGU j.fle g slA κ (λx=>λi=>λk l o=>Zfa i k l o)) λy a2 C N=>⟨_,rfl,?_⟩
 exact tZ
omit hψ in
instance k134:Kn 140 (type_of% @Zz5):=⟨@Zz5⟩
theorem ZiM {lists0 v0 r} (N:ZcW lists0=Jg r) (a:sc h eL v0 lists0):zL 222 #[v0] h ψ oL r:=by
 refine zT [[3,19,48]] Tryz.func222 λC=>?_;refine vL a C.le ?_;have C:=C.nilO (E:=oL);exact wX
omit hψ in
instance k135:Kn 222 (type_of% @ZiM):=⟨@ZiM⟩
theorem ZuG {e a r} (N:ZdS e=Jg r) (f:sc h eL a e.Rows):CallsH P 141 #[.agg #[.int .i64 e.Kind,.int .i64 e.Size,a]] h (λv g=>∃w0,v=.agg #[.int .i64 r.Points,w0]/\S ψ h g [.it (El.ow oL) [w0] r.Blocks]):=by
 refine zS hψ ⟨[],[],[],[(1,⟨kdL [0,2,0,1,3,0,4],.fin [2,3,4,0,1,5,6],Ji⟩)]⟩ Tryz.func141 λC=>?_;exact wX
omit hψ in
instance k136:Kn 141 (type_of% @ZuG):=⟨@ZuG⟩
theorem ZHP {x0 r} (N:Zl4 x0=Jg r)  :zR 224 #[.int .i64 x0] h ψ (.bool r):=by
 refine zO Tryz.func224 λC=>?_;exact wX
theorem ZDE {i v0 r} (N:ZkW i=Jg r) (j:sc h eL v0 i):zR 142 #[v0] h ψ (.bool r):=by
 refine zU [[3,84],[8,186],[12,48,222]] [[7]] Tryz.func142 λC=>?_;refine cm0 N C (λs k=>ZdK s k slA) λy a2 C N=>⟨_,rfl,?_⟩
 refine vL j C.le ?_;refine lp1 N (nlS C) λm e a3 a C N O=>?_;apply brQ N<;>intro N
 .refine ixV j C.le N λv a4 f N=>?_;refine ⟨λg=>S ψ h g []/\Zj6 i e v=Jg a,?_,?_⟩
  .refine cm0 N C (λs k=>Zk4 s k slA) λa5 a6 C N=>⟨_,rfl,?_⟩
   refine brZ λN=>?_;refine cl0 N C (λw _ _ l=>Zfb w.fle l slA κ (λa7=>λo=>λx  =>ZHP o x )) λa8 a9 C N=>⟨_,rfl,?_⟩
   exact wX
  .rintro _ g ⟨C,N⟩;obtain ⟨aa,u,N⟩:=obind N;refine Zey Jh (Jg e) j u rfl λab ac=>?_;exact wX
 .exact wX
omit hψ in
instance k137:Kn 142 (type_of% @ZDE):=⟨@ZDE⟩
theorem Zyd {levels0 column1 r} (N:ZtP levels0 column1=Jg r)  :zR 225 #[.int .i64 levels0,.int .i64 column1] h ψ (.bool r):=by
 refine zO Tryz.func225 λC=>?_;exact wX
omit hψ in
instance k138:Kn 225 (type_of% @Zyd):=⟨@Zyd⟩
theorem ZM6 {x0 e p1 a r} (N:ZkV x0 e=Jg r) (g:CellsC (hcell h) p1 [.int .i64 e.Levels,.int .i64 e.Columns,a]) (f:sc h eL a e.Rows):zR 226 #[.int .i64 x0,.pointer (Jg p1)] h ψ (.bool r):=by
 refine zO Tryz.func226 λC=>?_;exact wX
theorem Zw9 {a0 e r} (N:ZmJ a0=Jg r) (g:sc h eL e a0.Rows):zR 143 #[.agg #[.int .i64 a0.Levels,.int .i64 a0.Columns,e]] h ψ (.bool r):=by
 refine zS hψ ⟨an [[4,120]],an [[3]],[],[(6,⟨kdL [0,3,0,2,0,0,0,0,4,0],.fin (rgs [(0,10)]),Ji⟩)]⟩ Tryz.func143 λC=>?_;refine new_S C λw a3 C=>?_;refine ⟨λk=>S ψ h k [.box w [.int .i64 a0.Levels,.int .i64 a0.Columns,e]]/\ZqW a0=Jg r,?_,?_⟩
 .exact wX
 .rintro _ k ⟨C,N⟩;refine bV C 0 2 ?_;refine vL g C.le ?_;refine lp1 (os:=[.box w [.int .i64 a0.Levels,.int .i64 a0.Columns,e]]) N (pk C [0]) λm a4 x a C N O=>?_;refine brY λN=>?_;refine ixV g C.le N λa5 a6 f N=>?_;refine ⟨λ_=>False,?_⟩;have j:=C;have i:=eX x;obtain ⟨a7,o,N⟩:=obind N;refine ce0 C (λs=>Zk4 s.fle o slA) λa8 xE C=>⟨_,rfl,eZ (i.trans xE),?_⟩
  replace i:=i.trans xE;refine Z9 ?_;refine ldI_K (j.cells 0 rfl) 1 rfl rfl ?_;refine brZ λN=>?_;refine cl0 N C (λy _ _ u=>Zfb y.fle u slA κ (λl=>λv=>λa2  =>ZM6 v a2 ((C.cells 0 rfl).mono (CLe.ext l)) ((g.mono C.le).mono (CLe.ext l)))) λa9 aa C N=>⟨_,rfl,?_⟩
  exact wX
omit hψ in
instance k139:Kn 143 (type_of% @Zw9):=⟨@Zw9⟩
theorem ZCD {g f r} (N:Zhd g=Jg r) (k:sc h eL f g.Rows):CallsH P 144 #[.agg #[.int .i64 g.Kind,.int .i64 g.Size,f]] h (λv h'=>∃w0,v=.agg #[.int .i64 r.Levels,.int .i64 r.Columns,w0]/\S ψ h h' [.it (El.ow oL) [w0] r.Rows]):=by
 refine zS hψ ⟨[],[],[],[(1,⟨kdL [0,2,0,2,3,0,3,4],.both (.fin [2,3,4,6,0,1,5,7]) (.fin [6,2,3,4,0,1,5,7]),Ji⟩)]⟩ Tryz.func144 λC=>?_;refine new_S C λb1 a4 C=>?_;refine new_S C λb2 i C=>?_;obtain ⟨r8,j,N⟩:=obind N;refine ⟨λ_=>False,?_⟩;have e:=C;have a:=eX i;refine ⟨?_,?_⟩
 .refine Z8 ?_;refine ldV_K (e.cells 1 rfl) 2 rfl rfl ?_;refine ce1 C (λs=>ZiM s.fle j slA) λl o xE C=>⟨_,rfl,eZ (a.trans xE),?_⟩
  replace a:=a.trans xE;refine ZfW C λu w xE C=>⟨eZ (a.trans xE),?_⟩
  replace a:=a.trans xE;refine Z9 ?_;refine ldI_K (e.cells 1 rfl) 1 rfl rfl ?_;exact wX
 .refine ZfW C λx y xE C=>⟨eZ (a.trans xE),?_⟩
  replace a:=a.trans xE;refine Z8 ?_;refine ldV_K (e.cells 1 rfl) 2 rfl rfl ?_;refine ce1 C (λs=>ZiM s.fle j slA) λa2 a3 xE C=>⟨_,rfl,eZ (a.trans xE),?_⟩
  replace a:=a.trans xE;refine Z9 ?_;refine ldI_K (e.cells 1 rfl) 1 rfl rfl ?_;exact wX
omit hψ in
instance k140:Kn 144 (type_of% @ZCD):=⟨@ZCD⟩
theorem ZpP {e i limit2 r} (N:Zbr e i limit2=Jg r)  :zR 228 #[.int .i64 e,.int .i64 i,.int .i64 limit2] h ψ (.int .i64 r):=by
 refine zU [[2,6,42]] [[4]] Tryz.func228 λC=>?_;refine lp2 N (nlS C) λm g k j a C N O=>?_;refine ⟨λf=>S ψ h f []/\Zfz e g k=Jg a,?_,?_⟩
 .exact wX
 .rintro _ f ⟨C,N⟩;exact tZ
omit hψ in
instance k141:Kn 228 (type_of% @ZpP):=⟨@ZpP⟩
theorem ZgI {e a r} (N:Zbf e=Jg r) (f:sc h eI a e.Poly):zR 229 #[.agg #[.int .i64 e.Prime,.int .i64 e.Degree,a]] h ψ (.int .i64 r):=by
 refine zO Tryz.func229 λC=>?_;exact wX
omit hψ in
instance k142:Kn 229 (type_of% @ZgI):=⟨@ZgI⟩
theorem Zs6 {n0 a count2 r} (N:ZaU n0 a count2=Jg r)  :zL 296 #[.int .i64 n0,.int .i64 a,.int .i64 count2] h ψ eI r:=by
 refine zT [[3,0,78]] Tryz.func296 λC=>?_;exact wX
omit hψ in
instance k143:Kn 296 (type_of% @Zs6):=⟨@Zs6⟩
theorem ZxG {g v0 e v1 i r} (N:Zec g e i=Jg r) (f0:sc h eI v0 g) (l:sc h eI v1 e):zL 324 #[v0,v1,.int .i64 i] h ψ eI r:=by
 refine zT [[4,54],[8,198]] Tryz.func324 λC=>?_;refine cm1 N C (λs o=>Zha s o slA) λu j v C N=>⟨_,rfl,?_⟩
 refine vL l C.le ?_;refine ZF slA ?_;refine lw11 N (λk xs=>([.it oL [j] xs],k,xs)) λk w xs a C N O=>?_;apply brQ N<;>intro N
 .exact wX
 .refine ZF slA ?_;obtain ⟨x,f,N⟩:=obind N;refine cut_S Jh (Jg (if ((xs.length:Int):Int)<(Y.wrap ((e.length:Int)-1)) then (xs.length:Int) else Y.wrap ((e.length:Int)-1))) C 0 rfl f rfl λy C=>?_;exact wX
omit hψ in
instance k144:Kn 324 (type_of% @ZxG):=⟨@ZxG⟩
theorem ZN8 {x0 r} (N:Zmq x0=Jg r)  :zR 358 #[.int .i64 x0] h ψ (.bool r):=by
 refine zO Tryz.func358 λC=>?_;exact tZ
theorem ZAh {a v0 r} (N:ZkO a=Jg r) (k:sc h eI v0 a):zR 326 #[v0] h ψ (.bool r):=by
 refine zO Tryz.func326 λC=>?_;refine cl0 N C (λs _ _ g=>Zfb s.fle g slA κ (λi=>λe=>λf  =>ZN8 e f )) λl j C N=>⟨_,rfl,?_⟩
 exact tZ
omit hψ in
instance k145:Kn 326 (type_of% @ZAh):=⟨@ZAh⟩
theorem Zwg {a v0 p1 r} (N:Zib a p1=Jg r) (e:sc h eI v0 a):zR 295 #[v0,.int .i64 p1] h ψ (.bool r):=by
 refine zT [[3,36],[6,42]] Tryz.func295 λC=>?_;exact wX
omit hψ in
instance k146:Kn 295 (type_of% @Zwg):=⟨@Zwg⟩
theorem Zz2 {n0 r} (N:Zdi n0=Jg r)  :zL 325 #[.int .i64 n0] h ψ eI r:=by
 refine zT [[5,0,19,24],[7,0,19]] Tryz.func325 λC=>?_;refine cm0 N C (λs i=>Zgj s i) λl j C N=>⟨_,rfl,?_⟩
 apply brQ N<;>intro N
 .exact wX
 .have C:=C.nilO (E:=eI);refine lw31 N (λe f g o=>([.it oL [f] o],e,o,g)) λe f g k o a C N O=>?_;exact wX
omit hψ in
instance k147:Kn 325 (type_of% @Zz2):=⟨@Zz2⟩
theorem ZCX {n0 r} (N:Zmv n0=Jg r)  :zR 321 #[.int .i64 n0] h ψ (.bool r):=by
 refine zO Tryz.func321 λC=>?_;exact wX
omit hψ in
instance k148:Kn 321 (type_of% @ZCX):=⟨@ZCX⟩
theorem Zxo {a e r} (N:ZhO a=Jg r) (j:sc h eI e a.Poly):zR 284 #[.agg #[.int .i64 a.Prime,.int .i64 a.Degree,e]] h ψ (.bool r):=by
 refine zS hψ ⟨an [[6,246]],an [[3],[5]],[],[(3,⟨kdL [0,1,3,0,2,0,0,0,0,1,0,1,0,1,0,0],.fin (rgs [(0,16)]),Ji⟩)]⟩ Tryz.func284 λC=>?_;refine new_S C λi k C=>?_;refine ⟨λf=>S ψ h f [.box i [.int .i64 a.Prime,.int .i64 a.Degree,e]]/\ZlX a=Jg r,?_,?_⟩
 .exact wX
 .rintro _ f ⟨C,N⟩;refine ⟨λg=>S ψ h g [.box i [.int .i64 a.Prime,.int .i64 a.Degree,e]]/\Zn5 a=Jg r,?_,?_⟩
  .exact wX
  .rintro _ g ⟨C,N⟩;exact wX
omit hψ in
instance k149:Kn 284 (type_of% @Zxo):=⟨@Zxo⟩
theorem ZL0 {x0 a p1 r} (N:Zf6 x0 a=Jg r) (e:CellsC (hcell h) p1 [.int .i64 a]):zR 322 #[.int .i64 x0,.pointer (Jg p1)] h ψ (.bool r):=by
 refine zO Tryz.func322 λC=>?_;exact wX
theorem Zv0 {f a v1 r} (N:Zrj f a=Jg r) (o:sc h eI v1 a):zR 286 #[.int .i64 f,v1] h ψ (.bool r):=by
 refine zO Tryz.func286 λC=>?_;refine new_S C λu k C=>?_;refine cl0 N C (λs _ _ j=>Zfb s.fle j slA κ (λg=>λe=>λi  =>ZL0 e i ((C.cells 0 rfl).mono (CLe.ext g)))) λv l C N=>⟨_,rfl,?_⟩
 exact tZ
omit hψ in
instance k150:Kn 286 (type_of% @Zv0):=⟨@Zv0⟩
theorem ZIv {a v0 e p1 v1 f p2 r} (N:Zh9 a e f=Jg r) (j:sc h eI v0 a) (g:CellsC (hcell h) p1 [v1]) (k:sc h eL v1 e) (i:CellsC (hcell h) p2 [.int .i64 f]):zR 285 #[v0,.pointer (Jg p1),.pointer (Jg p2)] h ψ (.bool r):=by
 refine zO Tryz.func285 λC=>?_;exact wX
theorem ZBH {a e i v1 r} (N:Zgr a i=Jg r) (v:sc h eI e a.Poly) (w:sc h eL v1 i):zR 227 #[.agg #[.int .i64 a.Prime,.int .i64 a.Degree,e],v1] h ψ (.bool r):=by
 refine zU [] [[3]] Tryz.func227 λC=>?_;refine new_S C λx a3 C=>?_;refine ZD oneA ?_;refine new_S C λy a4 C=>?_;refine ⟨λg=>S ψ h g [.box y [v1],.box x [.int .i64 a.Prime,.int .i64 a.Degree,e]]/\Zts a i=Jg r,?_,?_⟩
 .exact wX
 .rintro _ g ⟨C,N⟩;refine lsA ?_;refine cm0 N C (λs hx=>ZgI s hx slA) λa5 a6 C N=>⟨_,rfl,?_⟩
  refine new_S C λb5 a7 C=>?_;refine boxA λa8 C=>?_;refine bV C 1 0 ?_;refine cl0 N C (λl _ _ j=>ZrM l.fle j slA κ (λf=>λk=>λo u=>ZIv k o u ((C.cells 1 rfl).mono (CLe.ext f)) ((w.mono C.le).mono (CLe.ext f)) ((C.cells 0 rfl).mono (CLe.ext f)))) λa9 aa C N=>⟨_,rfl,?_⟩
  exact tZ
omit hψ in
instance k151:Kn 227 (type_of% @ZBH):=⟨@ZBH⟩
theorem ZCa {digits0 v0 a r} (N:Znc digits0 a=Jg r) (e:sc h eI v0 digits0):zR 323 #[v0,.int .i64 a] h ψ (.int .i64 r):=by
 refine zT [[3,30,36]] Tryz.func323 λC=>?_;exact wX
omit hψ in
instance k152:Kn 323 (type_of% @ZCa):=⟨@ZCa⟩
theorem Zx4 {f e a1 g a r} (N:Zjo f a1 g a=Jg r) (i:sc h eI e f.Poly):zR 287 #[.agg #[.int .i64 f.Prime,.int .i64 f.Degree,e],.int .i64 a1,.int .i64 g,.int .i64 a] h ψ (.int .i64 r):=by
 refine zS hψ ⟨an [[3,156]],[],[],[(1,⟨kdL [0,0,1,0,1,3,0,0,2,0,2,4,0,0],.fin (rgs [(0,14)]),Ji⟩)]⟩ Tryz.func287 λC=>?_;exact wX
omit hψ in
instance k153:Kn 287 (type_of% @Zx4):=⟨@Zx4⟩
theorem ZAI {e a f g r} (N:Zm0 e f g=Jg r) (i:sc h eI a e.Poly):zR 288 #[.agg #[.int .i64 e.Prime,.int .i64 e.Degree,a],.int .i64 f,.int .i64 g] h ψ (.int .i64 r):=by
 refine zS hψ ⟨an [[4,180],[7,210]],[],[],[(1,⟨kdL [0,0,1,0,1,3,0,0,2,0,2,4,0,0],.fin (rgs [(0,14)]),Ji⟩),(12,⟨kdL [0,0,1,0,1,3,0,2,4,0],.fin (rgs [(0,10)]),Ji⟩)]⟩ Tryz.func288 λC=>?_;exact wX
omit hψ in
instance k154:Kn 288 (type_of% @ZAI):=⟨@ZAI⟩
end
end Go.Proofs.YtcneolcmjjlmnaaGreatDoor
